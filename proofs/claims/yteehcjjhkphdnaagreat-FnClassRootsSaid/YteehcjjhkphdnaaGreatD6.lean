/- Contracts: drawn matrices, moved forms. -/
import Derived.Test.YteehcjjhkphdnaaGreatDY
import Derived.Test.YteehcjjhkphdnaaGreatCA
namespace Go.Proofs.YteehcjjhkphdnaaGreat
open Go.RowKit

/-- A value of a form, as Go reckons it. -/
def atW (a b c x y : Int) : Int := wrap64 (wrap64 (wrap64 (wrap64 (a * x) * x) + wrap64 (wrap64 (b * x) * y)) + wrap64 (wrap64 (c * y) * y))
def polW (a b c x y u v : Int) : Int := wrap64 (wrap64 (wrap64 (wrap64 (wrap64 (2 * a) * x) * u) + wrap64 (b * wrap64 (wrap64 (x * v) + wrap64 (y * u)))) + wrap64 (wrap64 (wrap64 (2 * c) * y) * v))
set_option maxHeartbeats 400000 in
theorem foValue_w (a b c x y : Int) (w : World) :
    Calls Tryz.prog 231 #[.agg #[.int .i64 a, .int .i64 b, .int .i64 c], .int .i64 x, .int .i64 y] w fun e w' => e = .returned (.int .i64 (atW a b c x y)) ∧ Below w.heap.size w w' := by
  go_enter Tryz.func231, Tryz.ntmps231
  go_wp2
  go_ret
  exact ⟨ret_int (by unfold atW; rfl), (by repeat (first | with_reducible exact Below.refl _ _ | with_reducible assumption | with_reducible apply Below.drew | with_reducible apply below_drewN | (with_reducible apply below_setp; (first | omega | (simp <;> omega))) | (with_reducible apply below_allocp; (first | omega | (simp <;> omega))) | (with_reducible refine below_viap (by assumption) ?_ ?_; (first | omega | (simp <;> omega)))))⟩
set_option maxHeartbeats 400000 in
theorem foPolar_w (a b c x y u v : Int) (w : World) :
    Calls Tryz.prog 232 #[.agg #[.int .i64 a, .int .i64 b, .int .i64 c], .int .i64 x, .int .i64 y, .int .i64 u, .int .i64 v] w fun e w' => e = .returned (.int .i64 (polW a b c x y u v)) ∧ Below w.heap.size w w' := by
  go_enter Tryz.func232, Tryz.ntmps232
  go_wp2
  go_ret
  exact ⟨ret_int (by unfold polW; rfl), (by repeat (first | with_reducible exact Below.refl _ _ | with_reducible assumption | with_reducible apply Below.drew | with_reducible apply below_drewN | (with_reducible apply below_setp; (first | omega | (simp <;> omega))) | (with_reducible apply below_allocp; (first | omega | (simp <;> omega))) | (with_reducible refine below_viap (by assumption) ?_ ?_; (first | omega | (simp <;> omega)))))⟩
set_option maxHeartbeats 800000 in
theorem foAct_w (a b c p q r s : Int) (w : World) :
    Calls Tryz.prog 205 #[.agg #[.int .i64 a, .int .i64 b, .int .i64 c], .agg #[.int .i64 p, .int .i64 q, .int .i64 r, .int .i64 s]] w fun e w' =>
      e = .returned (.agg #[.int .i64 (atW a b c p r), .int .i64 (polW a b c p r q s), .int .i64 (atW a b c q s)]) ∧ Below w.heap.size w w' := by
  go_enter Tryz.func205, Tryz.ntmps205
  go_wp2
  refine wp_region_calm 23 (Below (w.heap.size + 3) _) (by kernel_rfl) (by kernel_rfl) ((Below.refl _ _).drew) ?_
  simp only [List.take_succ_cons, List.take_zero, List.drop_succ_cons, List.drop_zero]
  repeat (first | (apply wpCalm_go; go_simp; (intro w' hw' hcc hff; go_simp; first | exact rfl | (refine (foValue_w a b c _ _ _).mono ?_; rintro e w1 ⟨rfl, hb⟩; exact ⟨rfl, calm_call (by simp <;> omega) hw' hb⟩) | (refine (foPolar_w a b c _ _ _ _ _).mono ?_; rintro e w1 ⟨rfl, hb⟩; exact ⟨rfl, calm_call (by simp <;> omega) hw' hb⟩)); (intro K hK; go_simp; refine hK _ ?_; clear hK K)) | (apply wpCalm_skip; go_simp; (intro K hK; go_simp; refine hK _ ?_; clear hK K)))
  refine wpCalm_nil ?_
  intro w1 hw1
  have hcc := (calm_cells hw1).1
  have hff := (calm_cells hw1).2
  have hss := calm_size hw1
  have hsz := hw1.size
  (try simp at hsz)
  go_wp2
  exact bodyPost_ret (v := .agg #[.int .i64 (atW a b c p r), .int .i64 (polW a b c p r q s), .int .i64 (atW a b c q s)]) (by simp [results, Tryz.results205, go_sem, *]) rfl ⟨rfl, (by repeat (first | with_reducible exact Below.refl _ _ | with_reducible assumption | with_reducible apply Below.drew | with_reducible apply below_drewN | (with_reducible apply below_setp; (first | omega | (simp <;> omega))) | (with_reducible apply below_allocp; (first | omega | (simp <;> omega))) | (with_reducible refine below_viap (by assumption) ?_ ?_; (first | omega | (simp <;> omega)))))⟩

section
variable {zs : List Int} {v : Value} {B G n m : Nat} {w0 w w1 w2 : World}
/-- The loop of a drawn matrix. -/
def PrSt (zs : List Int) (v : Value) (B G n : Nat) (w : World) (b1 : Nat) (vk : Value) (wr : World) : Prop :=
  ∃ (k : Nat) (p q r s : Int), vk = .int .i64 k ∧ k ≤ 5 ∧ Hid (Drw zs v B G (n + 22 - 4 * k) w wr) ∧ Blk wr w.heap.size 65 #[.int .i64 0, .int .i64 0, .int .i64 0, .int .i64 0] ∧
    Blk wr b1 65 #[.int .i64 p, .int .i64 q, .int .i64 r, .int .i64 s] ∧ b1 < wr.heap.size

set_option maxRecDepth 100000 in
set_option maxHeartbeats 1600000 in
theorem proper_d (h : Drw zs v B G n w0 w) (hB : B ≤ G) (hn : n + 22 ≤ 100000000) :
    Calls Tryz.prog 206 #[.pointer (some ⟨G, 0, none⟩)] w fun e w' => ∃ x : Int × Int × Int × Int, e = .returned (.agg #[.int .i64 x.1, .int .i64 x.2.1, .int .i64 x.2.2.1, .int .i64 x.2.2.2]) ∧ True ∧ Drw zs v B G (n + 22) w0 w' ∧ w.grownBy w' (some G) := by
  have H := Lib.hid h
  have lG0 := h.lt
  have hD0 := Lib.hid (Drw.start h.rd h.cur)
  clear h
  have hfin : Hid (∀ (x y z t : Int) (w' : World), Drw zs v B G (n + 22) w w' → ∃ f : Int × Int × Int × Int, Ending.returned (.agg #[.int .i64 x, .int .i64 y, .int .i64 z, .int .i64 t]) = .returned (.agg #[.int .i64 f.1, .int .i64 f.2.1, .int .i64 f.2.2.1, .int .i64 f.2.2.2]) ∧ True ∧ Drw zs v B G (n + 22) w0 w' ∧ w.grownBy w' (some G)) :=
    Lib.hid (fun x y z t w' hd => ⟨(x, y, z, t), rfl, trivial, H.out.next hB hd.cur hd.gr, hd.gr⟩)
  go_enter Tryz.func206, Tryz.ntmps206
  go_wp2_with fail
  refine (pick_d (by repeat (first | with_reducible assumption | (with_reducible apply Hid.out; assumption) | with_reducible apply Drw.drewN | with_reducible apply Drw.drew | with_reducible apply Drw.alloc | (with_reducible refine Drw.setp ?_ ?_ ?_ ?_; (first | omega | (simp <;> omega)); (first | omega | (simp <;> omega)); (first | omega | (simp <;> omega))))) hB 6 (by omega) (by omega)).mono ?_
  rintro e v1 ⟨x1, rfl, hx1, hD1', hG1⟩
  have hD1 := Lib.hid hD1'
  have lG1 := hD1'.lt
  have zG1 := hG1.size
  (try simp at zG1)
  have hA1 : Blk v1 (w.heap.size) 65 #[.int .i64 0, .int .i64 0, .int .i64 0, .int .i64 0] := Blk.grown (by (repeat (first | with_reducible assumption | (with_reducible apply Blk.new_at; (first | rfl | (simp; done))) | with_reducible apply Blk.store3 | with_reducible apply Blk.store4 | (with_reducible apply Blk.farp; (first | omega | (simp <;> omega))) | with_reducible apply Blk.allocp | with_reducible apply Blk.drew | with_reducible apply Blk.drewN))) hG1 (by simp; omega)
  have cA1 := hA1.cell; have fA1 := hA1.frozen; have lA1 := hA1.lt; have mA1 := Nat.ne_of_gt lA1; have nA1 := Nat.ne_of_lt lA1
  have hM1 : Blk v1 (w.heap.size + 1) 65 #[.int .i64 1, .int .i64 0, .int .i64 0, .int .i64 1] := Blk.grown (by (repeat (first | with_reducible assumption | (with_reducible apply Blk.new_at; (first | rfl | (simp; done))) | with_reducible apply Blk.store3 | with_reducible apply Blk.store4 | (with_reducible apply Blk.farp; (first | omega | (simp <;> omega))) | with_reducible apply Blk.allocp | with_reducible apply Blk.drew | with_reducible apply Blk.drewN))) hG1 (by simp; omega)
  have cM1 := hM1.cell; have fM1 := hM1.frozen; have lM1 := hM1.lt; have mM1 := Nat.ne_of_gt lM1; have nM1 := Nat.ne_of_lt lM1
  clear hD1' hG1
  obtain ⟨k1, rfl⟩ : ∃ k : Nat, x1 = k := ⟨x1.toNat, by omega⟩
  obtain ⟨b1, hb1⟩ : ∃ b : Nat, b = w.heap.size + 1 := ⟨_, rfl⟩
  rw [← hb1] at hM1 lM1
  go_wp2
  rw [← hb1]
  have hb2 : w.heap.size < b1 := by omega
  have hb3 : ¬ w.heap.size = b1 := by omega
  have hb4 : ¬ b1 = w.heap.size := by omega
  clear cA1 fA1 cM1 fM1 hb1
  go_loopw [4] (fun vk wr => PrSt zs v B G n w b1 vk wr) (fun vk _ => (intOf vk).toNat)
  case atStart => exact ⟨k1, 1, 0, 0, 1, rfl, by omega, Lib.hid (hD1.out.more (by omega)), hA1, hM1, lM1⟩
  case round =>
    obtain ⟨k, p, q, r, s, rfl, hk, hD, hA, hM, hlt⟩ := hrel
    have cM := hM.cell; have fM := hM.frozen; have cA := hA.cell; have fA := hA.frozen
    have lG := hD.out.lt
    have ln := Nat.ne_of_gt hlt
    by_cases hk0 : k = 0
    · subst hk0
      go_wp2
      exact bodyPost_ret (v := .agg #[.int .i64 p, .int .i64 q, .int .i64 r, .int .i64 s]) (by simp [results, Tryz.results206, go_sem, *]) rfl (hfin.out _ _ _ _ _ (by have hd := hD.out.more (show n + 22 - 4 * 0 ≤ n + 22 by omega); clear hD hD1 hD0; exact (by repeat (first | with_reducible assumption | (with_reducible apply Hid.out; assumption) | with_reducible apply Drw.drewN | with_reducible apply Drw.drew | with_reducible apply Drw.alloc | (with_reducible refine Drw.setp ?_ ?_ ?_ ?_; (first | omega | (simp <;> omega)); (first | omega | (simp <;> omega)); (first | omega | (simp <;> omega)))))))
    · obtain ⟨j, rfl⟩ : ∃ j, k = j + 1 := ⟨k - 1, by omega⟩
      have hk1 : 0 < ((j + 1 : Nat) : Int) := by omega
      have hk2 : wrap64 (((j + 1 : Nat) : Int) - 1) = (j : Int) := by rw [IntWalk.wrap64_in _ (by omega)]; omega
      go_wp2_with fail
      refine (pick_d (w0 := w) (n := n + 22 - 4 * (j + 1)) hD.out hB 9 (by omega) (by omega)).mono ?_
      rintro e v2 ⟨x2, rfl, hx2, hD2', hG2⟩
      have hD2 := Lib.hid hD2'
      have hA2 := hA.grown hG2 (by simp; omega)
      have hM2 := hM.grown hG2 (by simp; omega)
      have zG2 := hG2.size
      clear cM fM cA fA hD2' hG2 hA hM
      go_wp2_with fail
      refine (pick_d (w0 := w) (Hid.out hD2) hB 3 (by omega) (by omega)).mono ?_
      rintro e v3 ⟨x3, rfl, hx3, hD3', hG3⟩
      have hD3 := Lib.hid hD3'
      have hA3 := hA2.grown hG3 (by simp; omega)
      have hM3 := hM2.grown hG3 (by simp; omega)
      have zG3 := hG3.size
      have cM := hM3.cell; have fM := hM3.frozen; have cA := hA3.cell; have fA := hA3.frozen
      have lM := hM3.lt
      have lG3 := hD3'.lt
      clear hD3' hG3 hA2 hM2
      have e3 : x3 = 0 ∨ x3 = 1 ∨ x3 = 2 := by omega
      clear hx3
      clear hA1 hM1 lM1 hD1 hD hlt ln
      rcases e3 with rfl | rfl | rfl
      · go_wp2_with (go_at_call 229; (with_reducible refine (foMul_any _ _ _ _ _ _ _ _ _).mono ?_); rintro e v4 ⟨rfl, hB4⟩; have hZ4 := hB4.size; (try simp at hZ4); (try have zl4 : w.heap.size < v4.heap.size := by omega); (try have ze4 : w.heap.size ≤ v4.heap.size := by omega); (try have zn4 : ¬ w.heap.size = v4.heap.size := by omega); (try have zm4 : ¬ v4.heap.size = w.heap.size := by omega); have hA4 : Blk v4 (w.heap.size) 65 #[.int .i64 0, .int .i64 0, .int .i64 0, .int .i64 0] := Blk.call (by (repeat (first | with_reducible assumption | (with_reducible apply Blk.new_at; (first | rfl | (simp; done))) | with_reducible apply Blk.store3 | with_reducible apply Blk.store4 | (with_reducible apply Blk.farp; (first | omega | (simp <;> omega))) | with_reducible apply Blk.allocp | with_reducible apply Blk.drew | with_reducible apply Blk.drewN))) hB4; have cA4 := hA4.cell; have fA4 := hA4.frozen; have lA4 := hA4.lt; have mA4 := Nat.ne_of_gt lA4; have nA4 := Nat.ne_of_lt lA4; have hM4 : Blk v4 (b1) 65 #[.int .i64 p, .int .i64 q, .int .i64 r, .int .i64 s] := Blk.call (by (repeat (first | with_reducible assumption | (with_reducible apply Blk.new_at; (first | rfl | (simp; done))) | with_reducible apply Blk.store3 | with_reducible apply Blk.store4 | (with_reducible apply Blk.farp; (first | omega | (simp <;> omega))) | with_reducible apply Blk.allocp | with_reducible apply Blk.drew | with_reducible apply Blk.drewN))) hB4; have cM4 := hM4.cell; have fM4 := hM4.frozen; have lM4 := hM4.lt; have mM4 := Nat.ne_of_gt lM4; have nM4 := Nat.ne_of_lt lM4)
        refine ⟨⟨j, mm p 1 q 0, mm p (x2 - 4) q 1, mm r 1 s 0, mm r (x2 - 4) s 1, rfl, by omega, Lib.hid ?_, by (repeat (first | with_reducible assumption | (with_reducible apply Blk.new_at; (first | rfl | (simp; done))) | with_reducible apply Blk.store3 | with_reducible apply Blk.store4 | (with_reducible apply Blk.farp; (first | omega | (simp <;> omega))) | with_reducible apply Blk.allocp | with_reducible apply Blk.drew | with_reducible apply Blk.drewN)), by (repeat (first | with_reducible assumption | (with_reducible apply Blk.new_at; (first | rfl | (simp; done))) | with_reducible apply Blk.store3 | with_reducible apply Blk.store4 | (with_reducible apply Blk.farp; (first | omega | (simp <;> omega))) | with_reducible apply Blk.allocp | with_reducible apply Blk.drew | with_reducible apply Blk.drewN)), by simp; omega⟩, by simp [intOf]⟩
        have hd := (hD3.out.call (w1 := v4) hB hB4).more (show n + 22 - 4 * (j + 1) + 2 + 2 ≤ n + 22 - 4 * j by omega)
        exact (by repeat (first | with_reducible assumption | (with_reducible apply Hid.out; assumption) | with_reducible apply Drw.drewN | with_reducible apply Drw.drew | with_reducible apply Drw.alloc | (with_reducible refine Drw.setp ?_ ?_ ?_ ?_; (first | omega | (simp <;> omega)); (first | omega | (simp <;> omega)); (first | omega | (simp <;> omega)))))
      · go_wp2_with (go_at_call 229; (with_reducible refine (foMul_any _ _ _ _ _ _ _ _ _).mono ?_); rintro e v4 ⟨rfl, hB4⟩; have hZ4 := hB4.size; (try simp at hZ4); (try have zl4 : w.heap.size < v4.heap.size := by omega); (try have ze4 : w.heap.size ≤ v4.heap.size := by omega); (try have zn4 : ¬ w.heap.size = v4.heap.size := by omega); (try have zm4 : ¬ v4.heap.size = w.heap.size := by omega); have hA4 : Blk v4 (w.heap.size) 65 #[.int .i64 0, .int .i64 0, .int .i64 0, .int .i64 0] := Blk.call (by (repeat (first | with_reducible assumption | (with_reducible apply Blk.new_at; (first | rfl | (simp; done))) | with_reducible apply Blk.store3 | with_reducible apply Blk.store4 | (with_reducible apply Blk.farp; (first | omega | (simp <;> omega))) | with_reducible apply Blk.allocp | with_reducible apply Blk.drew | with_reducible apply Blk.drewN))) hB4; have cA4 := hA4.cell; have fA4 := hA4.frozen; have lA4 := hA4.lt; have mA4 := Nat.ne_of_gt lA4; have nA4 := Nat.ne_of_lt lA4; have hM4 : Blk v4 (b1) 65 #[.int .i64 p, .int .i64 q, .int .i64 r, .int .i64 s] := Blk.call (by (repeat (first | with_reducible assumption | (with_reducible apply Blk.new_at; (first | rfl | (simp; done))) | with_reducible apply Blk.store3 | with_reducible apply Blk.store4 | (with_reducible apply Blk.farp; (first | omega | (simp <;> omega))) | with_reducible apply Blk.allocp | with_reducible apply Blk.drew | with_reducible apply Blk.drewN))) hB4; have cM4 := hM4.cell; have fM4 := hM4.frozen; have lM4 := hM4.lt; have mM4 := Nat.ne_of_gt lM4; have nM4 := Nat.ne_of_lt lM4)
        refine ⟨⟨j, mm p 1 q (x2 - 4), mm p 0 q 1, mm r 1 s (x2 - 4), mm r 0 s 1, rfl, by omega, Lib.hid ?_, by (repeat (first | with_reducible assumption | (with_reducible apply Blk.new_at; (first | rfl | (simp; done))) | with_reducible apply Blk.store3 | with_reducible apply Blk.store4 | (with_reducible apply Blk.farp; (first | omega | (simp <;> omega))) | with_reducible apply Blk.allocp | with_reducible apply Blk.drew | with_reducible apply Blk.drewN)), by (repeat (first | with_reducible assumption | (with_reducible apply Blk.new_at; (first | rfl | (simp; done))) | with_reducible apply Blk.store3 | with_reducible apply Blk.store4 | (with_reducible apply Blk.farp; (first | omega | (simp <;> omega))) | with_reducible apply Blk.allocp | with_reducible apply Blk.drew | with_reducible apply Blk.drewN)), by simp; omega⟩, by simp [intOf]⟩
        have hd := (hD3.out.call (w1 := v4) hB hB4).more (show n + 22 - 4 * (j + 1) + 2 + 2 ≤ n + 22 - 4 * j by omega)
        exact (by repeat (first | with_reducible assumption | (with_reducible apply Hid.out; assumption) | with_reducible apply Drw.drewN | with_reducible apply Drw.drew | with_reducible apply Drw.alloc | (with_reducible refine Drw.setp ?_ ?_ ?_ ?_; (first | omega | (simp <;> omega)); (first | omega | (simp <;> omega)); (first | omega | (simp <;> omega)))))
      · go_wp2_with (go_at_call 229; (with_reducible refine (foMul_any _ _ _ _ _ _ _ _ _).mono ?_); rintro e v4 ⟨rfl, hB4⟩; have hZ4 := hB4.size; (try simp at hZ4); (try have zl4 : w.heap.size < v4.heap.size := by omega); (try have ze4 : w.heap.size ≤ v4.heap.size := by omega); (try have zn4 : ¬ w.heap.size = v4.heap.size := by omega); (try have zm4 : ¬ v4.heap.size = w.heap.size := by omega); have hA4 : Blk v4 (w.heap.size) 65 #[.int .i64 0, .int .i64 0, .int .i64 0, .int .i64 0] := Blk.call (by (repeat (first | with_reducible assumption | (with_reducible apply Blk.new_at; (first | rfl | (simp; done))) | with_reducible apply Blk.store3 | with_reducible apply Blk.store4 | (with_reducible apply Blk.farp; (first | omega | (simp <;> omega))) | with_reducible apply Blk.allocp | with_reducible apply Blk.drew | with_reducible apply Blk.drewN))) hB4; have cA4 := hA4.cell; have fA4 := hA4.frozen; have lA4 := hA4.lt; have mA4 := Nat.ne_of_gt lA4; have nA4 := Nat.ne_of_lt lA4; have hM4 : Blk v4 (b1) 65 #[.int .i64 p, .int .i64 q, .int .i64 r, .int .i64 s] := Blk.call (by (repeat (first | with_reducible assumption | (with_reducible apply Blk.new_at; (first | rfl | (simp; done))) | with_reducible apply Blk.store3 | with_reducible apply Blk.store4 | (with_reducible apply Blk.farp; (first | omega | (simp <;> omega))) | with_reducible apply Blk.allocp | with_reducible apply Blk.drew | with_reducible apply Blk.drewN))) hB4; have cM4 := hM4.cell; have fM4 := hM4.frozen; have lM4 := hM4.lt; have mM4 := Nat.ne_of_gt lM4; have nM4 := Nat.ne_of_lt lM4)
        refine ⟨⟨j, mm p 0 q 1, mm p (-1) q 0, mm r 0 s 1, mm r (-1) s 0, rfl, by omega, Lib.hid ?_, by (repeat (first | with_reducible assumption | (with_reducible apply Blk.new_at; (first | rfl | (simp; done))) | with_reducible apply Blk.store3 | with_reducible apply Blk.store4 | (with_reducible apply Blk.farp; (first | omega | (simp <;> omega))) | with_reducible apply Blk.allocp | with_reducible apply Blk.drew | with_reducible apply Blk.drewN)), by (repeat (first | with_reducible assumption | (with_reducible apply Blk.new_at; (first | rfl | (simp; done))) | with_reducible apply Blk.store3 | with_reducible apply Blk.store4 | (with_reducible apply Blk.farp; (first | omega | (simp <;> omega))) | with_reducible apply Blk.allocp | with_reducible apply Blk.drew | with_reducible apply Blk.drewN)), by simp; omega⟩, by simp [intOf]⟩
        have hd := (hD3.out.call (w1 := v4) hB hB4).more (show n + 22 - 4 * (j + 1) + 2 + 2 ≤ n + 22 - 4 * j by omega)
        exact (by repeat (first | with_reducible assumption | (with_reducible apply Hid.out; assumption) | with_reducible apply Drw.drewN | with_reducible apply Drw.drew | with_reducible apply Drw.alloc | (with_reducible refine Drw.setp ?_ ?_ ?_ ?_; (first | omega | (simp <;> omega)); (first | omega | (simp <;> omega)); (first | omega | (simp <;> omega)))))
end
end Go.Proofs.YteehcjjhkphdnaaGreat
