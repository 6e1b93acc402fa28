/- Contracts: drawn proper matrices and moved forms, with what is known of them (written by gen_RV.py). -/
import Derived.Test.YtjjkndgokdofdaaDZ
import Derived.Test.YtjjkndgokdofdaaUA
namespace Go.Proofs.Ytjjkndgokdofdaa
open Go.RowKit

/-- A proper matrix before k more steps. -/
structure Pm (k : Nat) (p q r s : Int) : Prop where
  p0 : p.natAbs ≤ 5 ^ (5 - k)
  q0 : q.natAbs ≤ 5 ^ (5 - k)
  r0 : r.natAbs ≤ 5 ^ (5 - k)
  s0 : s.natAbs ≤ 5 ^ (5 - k)
  det : p * s - q * r = 1
theorem Pm.one (k : Nat) : Pm k 1 0 0 1 := by
  have h : 1 ≤ 5 ^ (5 - k) := Nat.one_le_pow _ _ (by decide)
  exact ⟨h, Nat.zero_le _, Nat.zero_le _, h, by decide⟩
theorem mm_eq {a b c d : Int} (ha : a.natAbs ≤ 625) (hc : c.natAbs ≤ 625) (hb : -4 ≤ b ∧ b ≤ 4) (hd : -4 ≤ d ∧ d ≤ 4) : mm a b c d = a * b + c * d := by
  unfold mm
  have m1 := mul_bd (a := b) (x := a) (A := 4) (X := 625) (by omega) (by omega) (by omega) (by omega)
  have m2 := mul_bd (a := d) (x := c) (A := 4) (X := 625) (by omega) (by omega) (by omega) (by omega)
  rw [Int.mul_comm b a] at m1
  rw [Int.mul_comm d c] at m2
  rw [IntWalk.wrap64_in (a * b) (by omega), IntWalk.wrap64_in (c * d) (by omega), IntWalk.wrap64_in _ (by omega)]
theorem pm_pow {j : Nat} (hj : j + 1 ≤ 5) : 5 ^ (5 - j) = 5 * 5 ^ (5 - (j + 1)) ∧ 5 ^ (5 - (j + 1)) ≤ 625 := by
  rcases (show j = 0 ∨ j = 1 ∨ j = 2 ∨ j = 3 ∨ j = 4 by omega) with rfl | rfl | rfl | rfl | rfl <;> decide
theorem pm_lin {x y t : Int} {N : Nat} (hx : x.natAbs ≤ N) (hy : y.natAbs ≤ N) (ht : -4 ≤ t ∧ t ≤ 4) : (x * t + y).natAbs ≤ 5 * N ∧ (x + y * t).natAbs ≤ 5 * N := by
  have h1 : (x * t).natAbs ≤ N * 4 := by rw [Int.natAbs_mul]; exact Nat.mul_le_mul hx (by omega)
  have h2 : (y * t).natAbs ≤ N * 4 := by rw [Int.natAbs_mul]; exact Nat.mul_le_mul hy (by omega)
  omega
section
variable {j : Nat} {p q r s t : Int}
theorem Pm.t1 (h : Pm (j + 1) p q r s) (hj : j + 1 ≤ 5) (ht : -4 ≤ t ∧ t ≤ 4) : Pm j (mm p 1 q 0) (mm p t q 1) (mm r 1 s 0) (mm r t s 1) := by
  obtain ⟨e1, e2⟩ := pm_pow hj
  obtain ⟨h1, h2, h3, h4, h5⟩ := h
  rw [mm_eq (by omega) (by omega) (by omega) (by omega), mm_eq (by omega) (by omega) (by omega) (by omega), mm_eq (by omega) (by omega) (by omega) (by omega), mm_eq (by omega) (by omega) (by omega) (by omega)]
  simp only [Int.mul_one, Int.mul_zero, Int.add_zero]
  exact ⟨by omega, by rw [e1]; exact (pm_lin h1 h2 ht).1, by omega, by rw [e1]; exact (pm_lin h3 h4 ht).1, by rw [← h5]; grind⟩
theorem Pm.t2 (h : Pm (j + 1) p q r s) (hj : j + 1 ≤ 5) (ht : -4 ≤ t ∧ t ≤ 4) : Pm j (mm p 1 q t) (mm p 0 q 1) (mm r 1 s t) (mm r 0 s 1) := by
  obtain ⟨e1, e2⟩ := pm_pow hj
  obtain ⟨h1, h2, h3, h4, h5⟩ := h
  rw [mm_eq (by omega) (by omega) (by omega) (by omega), mm_eq (by omega) (by omega) (by omega) (by omega), mm_eq (by omega) (by omega) (by omega) (by omega), mm_eq (by omega) (by omega) (by omega) (by omega)]
  simp only [Int.mul_one, Int.mul_zero, Int.zero_add]
  exact ⟨by rw [e1]; exact (pm_lin h1 h2 ht).2, by omega, by rw [e1]; exact (pm_lin h3 h4 ht).2, by omega, by rw [← h5]; grind⟩
theorem Pm.t3 (h : Pm (j + 1) p q r s) (hj : j + 1 ≤ 5) : Pm j (mm p 0 q 1) (mm p (-1) q 0) (mm r 0 s 1) (mm r (-1) s 0) := by
  obtain ⟨e1, e2⟩ := pm_pow hj
  obtain ⟨h1, h2, h3, h4, h5⟩ := h
  rw [mm_eq (by omega) (by omega) (by omega) (by omega), mm_eq (by omega) (by omega) (by omega) (by omega), mm_eq (by omega) (by omega) (by omega) (by omega), mm_eq (by omega) (by omega) (by omega) (by omega)]
  simp only [Int.mul_one, Int.mul_zero, Int.zero_add, Int.add_zero]
  exact ⟨by omega, by omega, by omega, by omega, by rw [← h5]; grind⟩
end
theorem atW_pos {a b c p q r s : Int} (h : Pm 0 p q r s) (ha : 1 ≤ a ∧ a ≤ 26) (hb : -26 ≤ b ∧ b ≤ 26) (hc : 1 ≤ c ∧ c ≤ 1000) (hd : b * b - 4 * a * c < 0) : 1 ≤ atW a b c p r := by
  obtain ⟨h1, h2, h3, h4, h5⟩ := h
  simp at h1 h3
  have m1 := mul_bd (a := a) (x := p) (A := 26) (X := 3125) (by omega) (by omega) (by omega) (by omega)
  have m2 := mul_bd (a := a * p) (x := p) (A := 81250) (X := 3125) (by omega) (by omega) (by omega) (by omega)
  have m3 := mul_bd (a := b) (x := p) (A := 26) (X := 3125) (by omega) (by omega) (by omega) (by omega)
  have m4 := mul_bd (a := b * p) (x := r) (A := 81250) (X := 3125) (by omega) (by omega) (by omega) (by omega)
  have m5 := mul_bd (a := c) (x := r) (A := 1000) (X := 3125) (by omega) (by omega) (by omega) (by omega)
  have m6 := mul_bd (a := c * r) (x := r) (A := 3125000) (X := 3125) (by omega) (by omega) (by omega) (by omega)
  unfold atW
  rw [IntWalk.wrap64_in (a * p) (by omega), IntWalk.wrap64_in (a * p * p) (by omega), IntWalk.wrap64_in (b * p) (by omega), IntWalk.wrap64_in (b * p * r) (by omega), IntWalk.wrap64_in (c * r) (by omega), IntWalk.wrap64_in (c * r * r) (by omega), IntWalk.wrap64_in (a * p * p + b * p * r) (by omega), IntWalk.wrap64_in _ (by omega)]
  apply Classical.byContradiction
  intro hn
  have k1 : 4 * a * (a * p * p + b * p * r + c * r * r) = (2 * a * p + b * r) * (2 * a * p + b * r) + (4 * a * c - b * b) * (r * r) := by grind
  have k2 : 0 ≤ (2 * a * p + b * r) * (2 * a * p + b * r) := by
    rcases Int.le_total 0 (2 * a * p + b * r) with h | h
    · exact Int.mul_nonneg h h
    · exact Int.mul_nonneg_of_nonpos_of_nonpos h h
  have k3 : 4 * a * (a * p * p + b * p * r + c * r * r) ≤ 0 := Int.mul_nonpos_of_nonneg_of_nonpos (by omega) (by omega)
  have k4 : 0 ≤ r * r := by
    rcases Int.le_total 0 r with h | h
    · exact Int.mul_nonneg h h
    · exact Int.mul_nonneg_of_nonpos_of_nonpos h h
  have k5 : 0 ≤ (4 * a * c - b * b) * (r * r) := Int.mul_nonneg (by omega) k4
  have k6 : (4 * a * c - b * b) * (r * r) = 0 := by omega
  have k7 : r = 0 := by
    rcases Int.mul_eq_zero.1 k6 with h | h
    · omega
    · rcases Int.mul_eq_zero.1 h with h | h <;> exact h
  subst k7
  have k8 : (2 * a * p) * (2 * a * p) = 0 := by
    have : (2 * a * p + b * 0) * (2 * a * p + b * 0) = 0 := by omega
    rw [Int.mul_zero, Int.add_zero] at this; exact this
  have k9 : p = 0 := by
    rcases Int.mul_eq_zero.1 k8 with h | h <;> (rcases Int.mul_eq_zero.1 h with h | h <;> omega)
  subst k9
  simp at h5
theorem isFm_a {a b c : Int} (h : isFm a b c = true) : a ≤ 1000000 := by
  unfold isFm at h
  simp only [Bool.and_eq_true] at h
  exact ((isNum_iff a).1 h.1).2
section
variable {zs : List Int} {v : Value} {B G n m : Nat} {w0 w w1 w2 : World}
/-- The loop of a drawn matrix. -/
def PrSt2 (zs : List Int) (v : Value) (B G n : Nat) (w : World) (b1 : Nat) (vk : Value) (wr : World) : Prop :=
  ∃ (k : Nat) (p q r s : Int), vk = .int .i64 k ∧ k ≤ 5 ∧ Hid (Drw zs v B G (n + 22 - 4 * k) w wr) ∧ Blk wr w.heap.size 92 #[.int .i64 0, .int .i64 0, .int .i64 0, .int .i64 0] ∧
    Blk wr b1 92 #[.int .i64 p, .int .i64 q, .int .i64 r, .int .i64 s] ∧ b1 < wr.heap.size ∧ Hid (Pm k p q r s)

set_option maxRecDepth 100000 in
set_option maxHeartbeats 1600000 in
theorem proper2_d (h : Drw zs v B G n w0 w) (hB : B ≤ G) (hn : n + 22 ≤ 100000000) :
    Calls Try.prog 139 #[.pointer (some ⟨G, 0, none⟩)] w fun e w' => ∃ x : Int × Int × Int × Int, e = .returned (.agg #[.int .i64 x.1, .int .i64 x.2.1, .int .i64 x.2.2.1, .int .i64 x.2.2.2]) ∧ Pm 0 x.1 x.2.1 x.2.2.1 x.2.2.2 ∧ Drw zs v B G (n + 22) w0 w' ∧ w.grownBy w' (some G) := by
  have H := Lib.hid h
  have lG0 := h.lt
  have hD0 := Lib.hid (Drw.start h.rd h.cur)
  clear h
  have hfin : Hid (∀ (x y z t : Int) (w' : World), Pm 0 x y z t → Drw zs v B G (n + 22) w w' → ∃ f : Int × Int × Int × Int, Ending.returned (.agg #[.int .i64 x, .int .i64 y, .int .i64 z, .int .i64 t]) = .returned (.agg #[.int .i64 f.1, .int .i64 f.2.1, .int .i64 f.2.2.1, .int .i64 f.2.2.2]) ∧ Pm 0 f.1 f.2.1 f.2.2.1 f.2.2.2 ∧ Drw zs v B G (n + 22) w0 w' ∧ w.grownBy w' (some G)) :=
    Lib.hid (fun x y z t w' hp hd => ⟨(x, y, z, t), rfl, hp, H.out.next hB hd.cur hd.gr, hd.gr⟩)
  go_enter Try.func139, Try.ntmps139
  go_wp2_with fail
  refine (pick_d (by repeat (first | with_reducible assumption | (with_reducible apply Hid.out; assumption) | with_reducible apply Drw.drewN | with_reducible apply Drw.drew | with_reducible apply Drw.alloc | (with_reducible refine Drw.setp ?_ ?_ ?_ ?_; (first | omega | (simp <;> omega)); (first | omega | (simp <;> omega)); (first | omega | (simp <;> omega))))) hB 6 (by omega) (by omega)).mono ?_
  rintro e v1 ⟨x1, rfl, hx1, hD1', hG1⟩
  have hD1 := Lib.hid hD1'
  have lG1 := hD1'.lt
  have zG1 := hG1.size
  (try simp at zG1)
  have hA1 : Blk v1 (w.heap.size) 92 #[.int .i64 0, .int .i64 0, .int .i64 0, .int .i64 0] := Blk.grown (by (repeat (first | with_reducible assumption | (with_reducible apply Blk.new_at; (first | rfl | (simp; done))) | with_reducible apply Blk.store3 | with_reducible apply Blk.store4 | (with_reducible apply Blk.farp; (first | omega | (simp <;> omega))) | with_reducible apply Blk.allocp | with_reducible apply Blk.drew | with_reducible apply Blk.drewN))) hG1 (by simp; omega)
  have cA1 := hA1.cell; have fA1 := hA1.frozen; have lA1 := hA1.lt; have mA1 := Nat.ne_of_gt lA1; have nA1 := Nat.ne_of_lt lA1
  have hM1 : Blk v1 (w.heap.size + 1) 92 #[.int .i64 1, .int .i64 0, .int .i64 0, .int .i64 1] := Blk.grown (by (repeat (first | with_reducible assumption | (with_reducible apply Blk.new_at; (first | rfl | (simp; done))) | with_reducible apply Blk.store3 | with_reducible apply Blk.store4 | (with_reducible apply Blk.farp; (first | omega | (simp <;> omega))) | with_reducible apply Blk.allocp | with_reducible apply Blk.drew | with_reducible apply Blk.drewN))) hG1 (by simp; omega)
  have cM1 := hM1.cell; have fM1 := hM1.frozen; have lM1 := hM1.lt; have mM1 := Nat.ne_of_gt lM1; have nM1 := Nat.ne_of_lt lM1
  clear hD1' hG1
  obtain ⟨k1, rfl⟩ : ∃ k : Nat, x1 = k := ⟨x1.toNat, by omega⟩
  obtain ⟨b1, hb1⟩ : ∃ b : Nat, b = w.heap.size + 1 := ⟨_, rfl⟩
  rw [← hb1] at hM1 lM1
  go_wp2
  rw [← hb1]
  have hb2 : w.heap.size < b1 := by omega
  have hb3 : ¬ w.heap.size = b1 := by omega
  have hb4 : ¬ b1 = w.heap.size := by omega
  clear cA1 fA1 cM1 fM1 hb1
  go_loopw [4] (fun vk wr => PrSt2 zs v B G n w b1 vk wr) (fun vk _ => (intOf vk).toNat)
  case atStart => exact ⟨k1, 1, 0, 0, 1, rfl, by omega, Lib.hid (hD1.out.more (by omega)), hA1, hM1, lM1, Lib.hid (Pm.one _)⟩
  case round =>
    obtain ⟨k, p, q, r, s, rfl, hk, hD, hA, hM, hlt, hP⟩ := hrel
    have cM := hM.cell; have fM := hM.frozen; have cA := hA.cell; have fA := hA.frozen
    have lG := hD.out.lt
    have ln := Nat.ne_of_gt hlt
    by_cases hk0 : k = 0
    · subst hk0
      go_wp2
      exact bodyPost_ret (v := .agg #[.int .i64 p, .int .i64 q, .int .i64 r, .int .i64 s]) (by simp [results, Try.results139, go_sem, *]) rfl (hfin.out _ _ _ _ _ hP.out (by have hd := hD.out.more (show n + 22 - 4 * 0 ≤ n + 22 by omega); clear hD hD1 hD0; exact (by repeat (first | with_reducible assumption | (with_reducible apply Hid.out; assumption) | with_reducible apply Drw.drewN | with_reducible apply Drw.drew | with_reducible apply Drw.alloc | (with_reducible refine Drw.setp ?_ ?_ ?_ ?_; (first | omega | (simp <;> omega)); (first | omega | (simp <;> omega)); (first | omega | (simp <;> omega)))))))
    · obtain ⟨j, rfl⟩ : ∃ j, k = j + 1 := ⟨k - 1, by omega⟩
      have hk1 : 0 < ((j + 1 : Nat) : Int) := by omega
      have hk2 : wrap64 (((j + 1 : Nat) : Int) - 1) = (j : Int) := by rw [IntWalk.wrap64_in _ (by omega)]; omega
      go_wp2_with fail
      refine (pick_d (w0 := w) (n := n + 22 - 4 * (j + 1)) hD.out hB 9 (by omega) (by omega)).mono ?_
      rintro e v2 ⟨x2, rfl, hx2, hD2', hG2⟩
      have hD2 := Lib.hid hD2'
      have hA2 := hA.grown hG2 (by simp; omega)
      have hM2 := hM.grown hG2 (by simp; omega)
      have zG2 := hG2.size
      clear cM fM cA fA hD2' hG2 hA hM
      go_wp2_with fail
      refine (pick_d (w0 := w) (Hid.out hD2) hB 3 (by omega) (by omega)).mono ?_
      rintro e v3 ⟨x3, rfl, hx3, hD3', hG3⟩
      have hD3 := Lib.hid hD3'
      have hA3 := hA2.grown hG3 (by simp; omega)
      have hM3 := hM2.grown hG3 (by simp; omega)
      have zG3 := hG3.size
      have cM := hM3.cell; have fM := hM3.frozen; have cA := hA3.cell; have fA := hA3.frozen
      have lM := hM3.lt
      have lG3 := hD3'.lt
      clear hD3' hG3 hA2 hM2
      have e3 : x3 = 0 ∨ x3 = 1 ∨ x3 = 2 := by omega
      clear hx3
      clear hA1 hM1 lM1 hD1 hD hlt ln
      rcases e3 with rfl | rfl | rfl
      · go_wp2_with (go_at_call 113; (with_reducible refine (foMul_any _ _ _ _ _ _ _ _ _).mono ?_); rintro e v4 ⟨rfl, hB4⟩; have hZ4 := hB4.size; (try simp at hZ4); (try have zl4 : w.heap.size < v4.heap.size := by omega); (try have ze4 : w.heap.size ≤ v4.heap.size := by omega); (try have zn4 : ¬ w.heap.size = v4.heap.size := by omega); (try have zm4 : ¬ v4.heap.size = w.heap.size := by omega); have hA4 : Blk v4 (w.heap.size) 92 #[.int .i64 0, .int .i64 0, .int .i64 0, .int .i64 0] := Blk.call (by (repeat (first | with_reducible assumption | (with_reducible apply Blk.new_at; (first | rfl | (simp; done))) | with_reducible apply Blk.store3 | with_reducible apply Blk.store4 | (with_reducible apply Blk.farp; (first | omega | (simp <;> omega))) | with_reducible apply Blk.allocp | with_reducible apply Blk.drew | with_reducible apply Blk.drewN))) hB4; have cA4 := hA4.cell; have fA4 := hA4.frozen; have lA4 := hA4.lt; have mA4 := Nat.ne_of_gt lA4; have nA4 := Nat.ne_of_lt lA4; have hM4 : Blk v4 (b1) 92 #[.int .i64 p, .int .i64 q, .int .i64 r, .int .i64 s] := Blk.call (by (repeat (first | with_reducible assumption | (with_reducible apply Blk.new_at; (first | rfl | (simp; done))) | with_reducible apply Blk.store3 | with_reducible apply Blk.store4 | (with_reducible apply Blk.farp; (first | omega | (simp <;> omega))) | with_reducible apply Blk.allocp | with_reducible apply Blk.drew | with_reducible apply Blk.drewN))) hB4; have cM4 := hM4.cell; have fM4 := hM4.frozen; have lM4 := hM4.lt; have mM4 := Nat.ne_of_gt lM4; have nM4 := Nat.ne_of_lt lM4)
        refine ⟨⟨j, mm p 1 q 0, mm p (x2 - 4) q 1, mm r 1 s 0, mm r (x2 - 4) s 1, rfl, by omega, Lib.hid ?_, by (repeat (first | with_reducible assumption | (with_reducible apply Blk.new_at; (first | rfl | (simp; done))) | with_reducible apply Blk.store3 | with_reducible apply Blk.store4 | (with_reducible apply Blk.farp; (first | omega | (simp <;> omega))) | with_reducible apply Blk.allocp | with_reducible apply Blk.drew | with_reducible apply Blk.drewN)), by (repeat (first | with_reducible assumption | (with_reducible apply Blk.new_at; (first | rfl | (simp; done))) | with_reducible apply Blk.store3 | with_reducible apply Blk.store4 | (with_reducible apply Blk.farp; (first | omega | (simp <;> omega))) | with_reducible apply Blk.allocp | with_reducible apply Blk.drew | with_reducible apply Blk.drewN)), by simp; omega, Lib.hid (Pm.t1 hP.out hk ⟨by omega, by omega⟩)⟩, by simp [intOf]⟩
        have hd := (hD3.out.call (w1 := v4) hB hB4).more (show n + 22 - 4 * (j + 1) + 2 + 2 ≤ n + 22 - 4 * j by omega)
        exact (by repeat (first | with_reducible assumption | (with_reducible apply Hid.out; assumption) | with_reducible apply Drw.drewN | with_reducible apply Drw.drew | with_reducible apply Drw.alloc | (with_reducible refine Drw.setp ?_ ?_ ?_ ?_; (first | omega | (simp <;> omega)); (first | omega | (simp <;> omega)); (first | omega | (simp <;> omega)))))
      · go_wp2_with (go_at_call 113; (with_reducible refine (foMul_any _ _ _ _ _ _ _ _ _).mono ?_); rintro e v4 ⟨rfl, hB4⟩; have hZ4 := hB4.size; (try simp at hZ4); (try have zl4 : w.heap.size < v4.heap.size := by omega); (try have ze4 : w.heap.size ≤ v4.heap.size := by omega); (try have zn4 : ¬ w.heap.size = v4.heap.size := by omega); (try have zm4 : ¬ v4.heap.size = w.heap.size := by omega); have hA4 : Blk v4 (w.heap.size) 92 #[.int .i64 0, .int .i64 0, .int .i64 0, .int .i64 0] := Blk.call (by (repeat (first | with_reducible assumption | (with_reducible apply Blk.new_at; (first | rfl | (simp; done))) | with_reducible apply Blk.store3 | with_reducible apply Blk.store4 | (with_reducible apply Blk.farp; (first | omega | (simp <;> omega))) | with_reducible apply Blk.allocp | with_reducible apply Blk.drew | with_reducible apply Blk.drewN))) hB4; have cA4 := hA4.cell; have fA4 := hA4.frozen; have lA4 := hA4.lt; have mA4 := Nat.ne_of_gt lA4; have nA4 := Nat.ne_of_lt lA4; have hM4 : Blk v4 (b1) 92 #[.int .i64 p, .int .i64 q, .int .i64 r, .int .i64 s] := Blk.call (by (repeat (first | with_reducible assumption | (with_reducible apply Blk.new_at; (first | rfl | (simp; done))) | with_reducible apply Blk.store3 | with_reducible apply Blk.store4 | (with_reducible apply Blk.farp; (first | omega | (simp <;> omega))) | with_reducible apply Blk.allocp | with_reducible apply Blk.drew | with_reducible apply Blk.drewN))) hB4; have cM4 := hM4.cell; have fM4 := hM4.frozen; have lM4 := hM4.lt; have mM4 := Nat.ne_of_gt lM4; have nM4 := Nat.ne_of_lt lM4)
        refine ⟨⟨j, mm p 1 q (x2 - 4), mm p 0 q 1, mm r 1 s (x2 - 4), mm r 0 s 1, rfl, by omega, Lib.hid ?_, by (repeat (first | with_reducible assumption | (with_reducible apply Blk.new_at; (first | rfl | (simp; done))) | with_reducible apply Blk.store3 | with_reducible apply Blk.store4 | (with_reducible apply Blk.farp; (first | omega | (simp <;> omega))) | with_reducible apply Blk.allocp | with_reducible apply Blk.drew | with_reducible apply Blk.drewN)), by (repeat (first | with_reducible assumption | (with_reducible apply Blk.new_at; (first | rfl | (simp; done))) | with_reducible apply Blk.store3 | with_reducible apply Blk.store4 | (with_reducible apply Blk.farp; (first | omega | (simp <;> omega))) | with_reducible apply Blk.allocp | with_reducible apply Blk.drew | with_reducible apply Blk.drewN)), by simp; omega, Lib.hid (Pm.t2 hP.out hk ⟨by omega, by omega⟩)⟩, by simp [intOf]⟩
        have hd := (hD3.out.call (w1 := v4) hB hB4).more (show n + 22 - 4 * (j + 1) + 2 + 2 ≤ n + 22 - 4 * j by omega)
        exact (by repeat (first | with_reducible assumption | (with_reducible apply Hid.out; assumption) | with_reducible apply Drw.drewN | with_reducible apply Drw.drew | with_reducible apply Drw.alloc | (with_reducible refine Drw.setp ?_ ?_ ?_ ?_; (first | omega | (simp <;> omega)); (first | omega | (simp <;> omega)); (first | omega | (simp <;> omega)))))
      · go_wp2_with (go_at_call 113; (with_reducible refine (foMul_any _ _ _ _ _ _ _ _ _).mono ?_); rintro e v4 ⟨rfl, hB4⟩; have hZ4 := hB4.size; (try simp at hZ4); (try have zl4 : w.heap.size < v4.heap.size := by omega); (try have ze4 : w.heap.size ≤ v4.heap.size := by omega); (try have zn4 : ¬ w.heap.size = v4.heap.size := by omega); (try have zm4 : ¬ v4.heap.size = w.heap.size := by omega); have hA4 : Blk v4 (w.heap.size) 92 #[.int .i64 0, .int .i64 0, .int .i64 0, .int .i64 0] := Blk.call (by (repeat (first | with_reducible assumption | (with_reducible apply Blk.new_at; (first | rfl | (simp; done))) | with_reducible apply Blk.store3 | with_reducible apply Blk.store4 | (with_reducible apply Blk.farp; (first | omega | (simp <;> omega))) | with_reducible apply Blk.allocp | with_reducible apply Blk.drew | with_reducible apply Blk.drewN))) hB4; have cA4 := hA4.cell; have fA4 := hA4.frozen; have lA4 := hA4.lt; have mA4 := Nat.ne_of_gt lA4; have nA4 := Nat.ne_of_lt lA4; have hM4 : Blk v4 (b1) 92 #[.int .i64 p, .int .i64 q, .int .i64 r, .int .i64 s] := Blk.call (by (repeat (first | with_reducible assumption | (with_reducible apply Blk.new_at; (first | rfl | (simp; done))) | with_reducible apply Blk.store3 | with_reducible apply Blk.store4 | (with_reducible apply Blk.farp; (first | omega | (simp <;> omega))) | with_reducible apply Blk.allocp | with_reducible apply Blk.drew | with_reducible apply Blk.drewN))) hB4; have cM4 := hM4.cell; have fM4 := hM4.frozen; have lM4 := hM4.lt; have mM4 := Nat.ne_of_gt lM4; have nM4 := Nat.ne_of_lt lM4)
        refine ⟨⟨j, mm p 0 q 1, mm p (-1) q 0, mm r 0 s 1, mm r (-1) s 0, rfl, by omega, Lib.hid ?_, by (repeat (first | with_reducible assumption | (with_reducible apply Blk.new_at; (first | rfl | (simp; done))) | with_reducible apply Blk.store3 | with_reducible apply Blk.store4 | (with_reducible apply Blk.farp; (first | omega | (simp <;> omega))) | with_reducible apply Blk.allocp | with_reducible apply Blk.drew | with_reducible apply Blk.drewN)), by (repeat (first | with_reducible assumption | (with_reducible apply Blk.new_at; (first | rfl | (simp; done))) | with_reducible apply Blk.store3 | with_reducible apply Blk.store4 | (with_reducible apply Blk.farp; (first | omega | (simp <;> omega))) | with_reducible apply Blk.allocp | with_reducible apply Blk.drew | with_reducible apply Blk.drewN)), by simp; omega, Lib.hid (Pm.t3 hP.out hk)⟩, by simp [intOf]⟩
        have hd := (hD3.out.call (w1 := v4) hB hB4).more (show n + 22 - 4 * (j + 1) + 2 + 2 ≤ n + 22 - 4 * j by omega)
        exact (by repeat (first | with_reducible assumption | (with_reducible apply Hid.out; assumption) | with_reducible apply Drw.drewN | with_reducible apply Drw.drew | with_reducible apply Drw.alloc | (with_reducible refine Drw.setp ?_ ?_ ?_ ?_; (first | omega | (simp <;> omega)); (first | omega | (simp <;> omega)); (first | omega | (simp <;> omega)))))
set_option maxRecDepth 100000 in
set_option maxHeartbeats 1600000 in
theorem moved2_d (h : Drw zs v B G n w0 w) (hB : B ≤ G) (hn : n + 22 ≤ 100000000) (f : Fm) (fa : 1 ≤ f.a ∧ f.a ≤ 26) (fb : -26 ≤ f.b ∧ f.b ≤ 26) (fc : 1 ≤ f.c ∧ f.c ≤ 1000) (fd : f.b * f.b - 4 * f.a * f.c < 0) :
    Calls Try.prog 126 #[.pointer (some ⟨G, 0, none⟩), .agg #[.int .i64 f.a, .int .i64 f.b, .int .i64 f.c]] w fun e w' => ∃ f : Fm, e = .returned (.agg #[.int .i64 f.a, .int .i64 f.b, .int .i64 f.c]) ∧ (1 ≤ f.a ∧ f.a ≤ 1000000) ∧ Drw zs v B G (n + 22) w0 w' ∧ w.grownBy w' (some G) := by
  have H := Lib.hid h
  have lG0 := h.lt
  have hD0 := Lib.hid (Drw.start h.rd h.cur)
  clear h
  have hfin : Hid (∀ (x y z : Int) (w' : World), (1 ≤ x ∧ x ≤ 1000000) → Drw zs v B G (n + 22) w w' → ∃ f : Fm, Ending.returned (.agg #[.int .i64 x, .int .i64 y, .int .i64 z]) = .returned (.agg #[.int .i64 f.a, .int .i64 f.b, .int .i64 f.c]) ∧ (1 ≤ f.a ∧ f.a ≤ 1000000) ∧ Drw zs v B G (n + 22) w0 w' ∧ w.grownBy w' (some G)) :=
    Lib.hid (fun x y z w' hp hd => ⟨⟨x, y, z⟩, rfl, hp, H.out.next hB hd.cur hd.gr, hd.gr⟩)
  have HFA := Lib.hid (show 1 ≤ f.a ∧ f.a ≤ 1000000 by omega)
  have HFB := Lib.hid (And.intro fa (And.intro fb (And.intro fc fd)))
  clear fa fb fc fd
  go_enter Try.func126, Try.ntmps126
  go_wp2
  have nG1 : ¬ w.heap.size = G := by omega
  have nG2 : ¬ w.heap.size + 1 = G := by omega
  have nG3 : ¬ w.heap.size + 1 + 1 = G := by omega
  have p1 : w.heap.size < w.heap.size + 1 + 1 := by omega
  have p2 : w.heap.size < w.heap.size + 1 + 1 + 1 := by omega
  have p3 : w.heap.size + 1 < w.heap.size + 1 + 1 + 1 := by omega
  go_region_with (first
    | (go_at_call 139; refine (proper2_d (by repeat (first | with_reducible assumption | (with_reducible apply Hid.out; assumption) | with_reducible apply Drw.drewN | with_reducible apply Drw.drew | with_reducible apply Drw.alloc | (with_reducible refine Drw.setp ?_ ?_ ?_ ?_; (first | omega | (simp <;> omega)); (first | omega | (simp <;> omega)); (first | omega | (simp <;> omega))))) hB (by omega)).mono ?_; rintro e v1 ⟨x1, rfl, hx1, hD1', hG1⟩; have hD1 := Lib.hid hD1'; have zG1 := hG1.size; (try simp at zG1); have lG1 := hD1'.lt
       have hcc := (grown_calm hG1).1; have hff := (grown_calm hG1).2
       have cA1 := fun o => hcc w.heap.size o; have fA1 := fun o => hff w.heap.size o; have cR1 := fun o => hcc (w.heap.size + 1) o; have fR1 := fun o => hff (w.heap.size + 1) o
       have cP1 := fun o => hcc (w.heap.size + 1 + 1) o; have fP1 := fun o => hff (w.heap.size + 1 + 1) o
       (try simp [nG1, p1, p2] at cA1); (try simp [nG1, p1, p2] at fA1); (try simp [nG2, p3] at cR1); (try simp [nG2, p3] at fR1); (try simp [nG3] at cP1); (try simp [nG3] at fP1)
       have q0 : w.heap.size < v1.heap.size := by omega
       have q1 : w.heap.size + 1 < v1.heap.size := by omega
       (try have q2 : w.heap.size + 1 + 1 < v1.heap.size := by omega)
       have q3 : w.heap.size < v1.heap.size + 1 := by omega
       have q4 : w.heap.size + 1 < v1.heap.size + 1 := by omega
       have q5 : ¬ w.heap.size = v1.heap.size := by omega
       have q6 : ¬ w.heap.size + 1 = v1.heap.size := by omega
       have q7 : ¬ v1.heap.size = w.heap.size := by omega
       have q8 : ¬ v1.heap.size = w.heap.size + 1 := by omega
       clear hD1' hG1 hcc hff)
    | (go_at_call 112; refine (foAct_w _ _ _ _ _ _ _ _).mono ?_; rintro e v2 ⟨rfl, hB2⟩; have zB2 := hB2.size; (try simp at zB2)
       have hcc := (calm_cells hB2).1; have hff := (calm_cells hB2).2
       have cA2 := fun o => hcc w.heap.size o; have fA2 := fun o => hff w.heap.size o; have cR2 := fun o => hcc (w.heap.size + 1) o; have fR2 := fun o => hff (w.heap.size + 1) o
       have cP2 := fun o => hcc (w.heap.size + 1 + 1) o; have fP2 := fun o => hff (w.heap.size + 1 + 1) o
       have cQ2 := fun o => hcc v1.heap.size o; have fQ2 := fun o => hff v1.heap.size o
       (try simp [q0, q3, cA1] at cA2); (try simp [q0, q3, fA1] at fA2); (try simp [q1, q4, cR1] at cR2); (try simp [q1, q4, fR1] at fR2); (try simp [q2, cP1] at cP2); (try simp [q2, fP1] at fP2); (try simp at cQ2); (try simp at fQ2)
       have r5 : ¬ w.heap.size = v2.heap.size := by omega
       have r6 : ¬ w.heap.size + 1 = v2.heap.size := by omega
       have r7 : ¬ v2.heap.size = w.heap.size := by omega
       have r8 : ¬ v2.heap.size = w.heap.size + 1 := by omega
       have hD2 := Lib.hid (Drw.call (by repeat (first | with_reducible assumption | (with_reducible apply Hid.out; assumption) | with_reducible apply Drw.drewN | with_reducible apply Drw.drew | with_reducible apply Drw.alloc | (with_reducible refine Drw.setp ?_ ?_ ?_ ?_; (first | omega | (simp <;> omega)); (first | omega | (simp <;> omega)); (first | omega | (simp <;> omega))))) hB hB2)
       (try have s2 : w.heap.size + 1 + 1 < v2.heap.size := by omega)
       (try have s3 : v1.heap.size < v2.heap.size := by omega)
       have s0 : w.heap.size < v2.heap.size := by omega
       have s1 : w.heap.size + 1 < v2.heap.size := by omega
       have s4 : w.heap.size < v2.heap.size + 1 := by omega
       have s5 : w.heap.size + 1 < v2.heap.size + 1 := by omega
       clear hcc hff))
  all_goals
    clear hD1 hD0
    have hXp := Lib.hid (atW_pos hx1 HFB.out.1 HFB.out.2.1 HFB.out.2.2.1 HFB.out.2.2.2)
    clear hx1
    generalize atW f.a f.b f.c x1.fst x1.snd.snd.fst = X at *
    generalize polW f.a f.b f.c x1.fst x1.snd.snd.fst x1.snd.fst x1.snd.snd.snd = Y at *
    generalize atW f.a f.b f.c x1.snd.fst x1.snd.snd.snd = Z at *
    have hGd := Lib.hid (fun w => foGood_any X Y Z w)
    cases hbb : isFm X Y Z
    all_goals rw [hbb] at hGd
    · clear hbb
      go_wp2_with (go_at_call 109; refine (hGd.out _).mono ?_; rintro e v3 ⟨rfl, hB3⟩; have hcc := (calm_cells hB3).1; have hff := (calm_cells hB3).2)
      exact bodyPost_ret (v := .agg #[.int .i64 f.a, .int .i64 f.b, .int .i64 f.c]) (by simp [results, Try.results126, go_sem, *]) rfl (hfin.out _ _ _ _ HFA.out (by have hd : Drw zs v B G (n + 22) w v3 := Drw.call (w := _) (by repeat (first | with_reducible assumption | (with_reducible apply Hid.out; assumption) | with_reducible apply Drw.drewN | with_reducible apply Drw.drew | with_reducible apply Drw.alloc | (with_reducible refine Drw.setp ?_ ?_ ?_ ?_; (first | omega | (simp <;> omega)); (first | omega | (simp <;> omega)); (first | omega | (simp <;> omega))))) hB hB3; clear hD2; exact (by repeat (first | with_reducible assumption | (with_reducible apply Hid.out; assumption) | with_reducible apply Drw.drewN | with_reducible apply Drw.drew | with_reducible apply Drw.alloc | (with_reducible refine Drw.setp ?_ ?_ ?_ ?_; (first | omega | (simp <;> omega)); (first | omega | (simp <;> omega)); (first | omega | (simp <;> omega)))))))
    · have HXP := Lib.hid (show 1 ≤ X ∧ X ≤ 1000000 from ⟨hXp.out, isFm_a hbb⟩)
      clear hbb
      go_wp2_with (go_at_call 109; refine (hGd.out _).mono ?_; rintro e v3 ⟨rfl, hB3⟩; have hcc := (calm_cells hB3).1; have hff := (calm_cells hB3).2)
      exact bodyPost_ret (v := .agg #[.int .i64 X, .int .i64 Y, .int .i64 Z]) (by simp [results, Try.results126, go_sem, *]) rfl (hfin.out _ _ _ _ HXP.out (by have hd : Drw zs v B G (n + 22) w v3 := Drw.call (w := _) (by repeat (first | with_reducible assumption | (with_reducible apply Hid.out; assumption) | with_reducible apply Drw.drewN | with_reducible apply Drw.drew | with_reducible apply Drw.alloc | (with_reducible refine Drw.setp ?_ ?_ ?_ ?_; (first | omega | (simp <;> omega)); (first | omega | (simp <;> omega)); (first | omega | (simp <;> omega))))) hB hB3; clear hD2; exact (by repeat (first | with_reducible assumption | (with_reducible apply Hid.out; assumption) | with_reducible apply Drw.drewN | with_reducible apply Drw.drew | with_reducible apply Drw.alloc | (with_reducible refine Drw.setp ?_ ?_ ?_ ?_; (first | omega | (simp <;> omega)); (first | omega | (simp <;> omega)); (first | omega | (simp <;> omega)))))))
end
end Go.Proofs.Ytjjkndgokdofdaa
