/- Parts D6 D7 D8 laid together by tp.py. -/
import Derived.Test.YtlcegkafagdcjaaGreatDoorDY
import Derived.Test.YtlcegkafagdcjaaGreatDoorCA
import Derived.Deep.DeepCutAuto
namespace Go.Proofs.YtlcegkafagdcjaaGreatDoor
section
open Go.RowKit

/-- A value of a form, as Go reckons it. -/
def atW (a b c x y : Int) : Int := wrap64 (wrap64 (wrap64 (wrap64 (a * x) * x) + wrap64 (wrap64 (b * x) * y)) + wrap64 (wrap64 (c * y) * y))
def polW (a b c x y u v : Int) : Int := wrap64 (wrap64 (wrap64 (wrap64 (wrap64 (2 * a) * x) * u) + wrap64 (b * wrap64 (wrap64 (x * v) + wrap64 (y * u)))) + wrap64 (wrap64 (wrap64 (2 * c) * y) * v))
set_option maxHeartbeats 400000 in
theorem foValue_w (a b c x y : Int) (w : World) :
    Calls Tryz.prog 136 #[.agg #[.int .i64 a, .int .i64 b, .int .i64 c], .int .i64 x, .int .i64 y] w fun e w' => e = .returned (.int .i64 (atW a b c x y)) ∧ Below w.heap.size w w' := by
  go_enter Tryz.func136, Tryz.ntmps136
  go_wp2
  go_ret
  exact ⟨ret_int (by unfold atW; rfl), (by repeat (first | with_reducible exact Below.refl _ _ | with_reducible assumption | with_reducible apply Below.drew | with_reducible apply below_drewN | (with_reducible apply below_setp; (first | omega | (simp <;> omega))) | (with_reducible apply below_allocp; (first | omega | (simp <;> omega))) | (with_reducible refine below_viap (by assumption) ?_ ?_; (first | omega | (simp <;> omega)))))⟩
set_option maxHeartbeats 400000 in
theorem foPolar_w (a b c x y u v : Int) (w : World) :
    Calls Tryz.prog 137 #[.agg #[.int .i64 a, .int .i64 b, .int .i64 c], .int .i64 x, .int .i64 y, .int .i64 u, .int .i64 v] w fun e w' => e = .returned (.int .i64 (polW a b c x y u v)) ∧ Below w.heap.size w w' := by
  go_enter Tryz.func137, Tryz.ntmps137
  go_wp2
  go_ret
  exact ⟨ret_int (by unfold polW; rfl), (by repeat (first | with_reducible exact Below.refl _ _ | with_reducible assumption | with_reducible apply Below.drew | with_reducible apply below_drewN | (with_reducible apply below_setp; (first | omega | (simp <;> omega))) | (with_reducible apply below_allocp; (first | omega | (simp <;> omega))) | (with_reducible refine below_viap (by assumption) ?_ ?_; (first | omega | (simp <;> omega)))))⟩
set_option maxHeartbeats 800000 in
theorem foAct_w (a b c p q r s : Int) (w : World) :
    Calls Tryz.prog 109 #[.agg #[.int .i64 a, .int .i64 b, .int .i64 c], .agg #[.int .i64 p, .int .i64 q, .int .i64 r, .int .i64 s]] w fun e w' =>
      e = .returned (.agg #[.int .i64 (atW a b c p r), .int .i64 (polW a b c p r q s), .int .i64 (atW a b c q s)]) ∧ Below w.heap.size w w' := by
  go_enter Tryz.func109, Tryz.ntmps109
  go_wp2
  refine wp_region_calm 23 (Below (w.heap.size + 3) _) (by kernel_rfl) (by kernel_rfl) ((Below.refl _ _).drew) ?_
  simp only [List.take_succ_cons, List.take_zero, List.drop_succ_cons, List.drop_zero]
  repeat (first | (apply wpCalm_go; go_simp; (intro w' hw' hcc hff; go_simp; first | exact rfl | (refine (foValue_w a b c _ _ _).mono ?_; rintro e w1 ⟨rfl, hb⟩; exact ⟨rfl, calm_call (by simp <;> omega) hw' hb⟩) | (refine (foPolar_w a b c _ _ _ _ _).mono ?_; rintro e w1 ⟨rfl, hb⟩; exact ⟨rfl, calm_call (by simp <;> omega) hw' hb⟩)); (intro K hK; go_simp; refine hK _ ?_; clear hK K)) | (apply wpCalm_skip; go_simp; (try (focus (simp [undef]; done))); (intro K hK; go_simp; refine hK _ ?_; clear hK K)))
  refine wpCalm_nil ?_
  intro w1 hw1
  have hcc := (calm_cells hw1).1
  have hff := (calm_cells hw1).2
  have hss := calm_size hw1
  have hsz := hw1.size
  (try simp at hsz)
  go_wp2
  exact bodyPost_ret (v := .agg #[.int .i64 (atW a b c p r), .int .i64 (polW a b c p r q s), .int .i64 (atW a b c q s)]) (by simp [results, Tryz.results109, go_sem, *]) rfl ⟨rfl, (by repeat (first | with_reducible exact Below.refl _ _ | with_reducible assumption | with_reducible apply Below.drew | with_reducible apply below_drewN | (with_reducible apply below_setp; (first | omega | (simp <;> omega))) | (with_reducible apply below_allocp; (first | omega | (simp <;> omega))) | (with_reducible refine below_viap (by assumption) ?_ ?_; (first | omega | (simp <;> omega)))))⟩

section
variable {zs : List Int} {v : Value} {B G n m : Nat} {w0 w w1 w2 : World}
/-- The loop of a drawn matrix. -/
def PrSt (zs : List Int) (v : Value) (B G n : Nat) (w : World) (b1 : Nat) (vk : Value) (wr : World) : Prop :=
  ∃ (k : Nat) (p q r s : Int), vk = .int .i64 k ∧ k ≤ 5 ∧ Hid (Drw zs v B G (n + 22 - 4 * k) w wr) ∧ Blk wr w.heap.size 27 #[.int .i64 0, .int .i64 0, .int .i64 0, .int .i64 0] ∧
    Blk wr b1 27 #[.int .i64 p, .int .i64 q, .int .i64 r, .int .i64 s] ∧ b1 < wr.heap.size

set_option maxRecDepth 100000 in
set_option maxHeartbeats 1600000 in
theorem proper_d (h : Drw zs v B G n w0 w) (hB : B ≤ G) (hn : n + 22 ≤ 100000000) :
    Calls Tryz.prog 22 #[.pointer (some ⟨G, 0, none⟩)] w fun e w' => ∃ x : Int × Int × Int × Int, e = .returned (.agg #[.int .i64 x.1, .int .i64 x.2.1, .int .i64 x.2.2.1, .int .i64 x.2.2.2]) ∧ True ∧ Drw zs v B G (n + 22) w0 w' ∧ w.grownBy w' (some G) := by
  have H := Lib.hid h
  have lG0 := h.lt
  have hD0 := Lib.hid (Drw.start h.rd h.cur)
  clear h
  have hfin : Hid (∀ (x y z t : Int) (w' : World), Drw zs v B G (n + 22) w w' → ∃ f : Int × Int × Int × Int, Ending.returned (.agg #[.int .i64 x, .int .i64 y, .int .i64 z, .int .i64 t]) = .returned (.agg #[.int .i64 f.1, .int .i64 f.2.1, .int .i64 f.2.2.1, .int .i64 f.2.2.2]) ∧ True ∧ Drw zs v B G (n + 22) w0 w' ∧ w.grownBy w' (some G)) :=
    Lib.hid (fun x y z t w' hd => ⟨(x, y, z, t), rfl, trivial, H.out.next hB hd.cur hd.gr, hd.gr⟩)
  go_enter Tryz.func22, Tryz.ntmps22
  go_wp2_with fail
  refine (pick_d (by repeat (first | with_reducible assumption | (with_reducible apply Hid.out; assumption) | with_reducible apply Drw.drewN | with_reducible apply Drw.drew | with_reducible apply Drw.alloc | (with_reducible refine Drw.setp ?_ ?_ ?_ ?_; (first | omega | (simp <;> omega)); (first | omega | (simp <;> omega)); (first | omega | (simp <;> omega))))) hB 6 (by omega) (by omega)).mono ?_
  rintro e v1 ⟨x1, rfl, hx1, hD1', hG1⟩
  have hD1 := Lib.hid hD1'
  have lG1 := hD1'.lt
  have zG1 := hG1.size
  (try simp at zG1)
  have hA1 : Blk v1 (w.heap.size) 27 #[.int .i64 0, .int .i64 0, .int .i64 0, .int .i64 0] := Blk.grown (by (repeat (first | with_reducible assumption | (with_reducible apply Blk.new_at; (first | rfl | (simp; done))) | with_reducible apply Blk.store3 | with_reducible apply Blk.store4 | (with_reducible apply Blk.farp; (first | omega | (simp <;> omega))) | with_reducible apply Blk.allocp | with_reducible apply Blk.drew | with_reducible apply Blk.drewN))) hG1 (by simp; omega)
  have cA1 := hA1.cell; have fA1 := hA1.frozen; have lA1 := hA1.lt; have mA1 := Nat.ne_of_gt lA1; have nA1 := Nat.ne_of_lt lA1
  have hM1 : Blk v1 (w.heap.size + 1) 27 #[.int .i64 1, .int .i64 0, .int .i64 0, .int .i64 1] := Blk.grown (by (repeat (first | with_reducible assumption | (with_reducible apply Blk.new_at; (first | rfl | (simp; done))) | with_reducible apply Blk.store3 | with_reducible apply Blk.store4 | (with_reducible apply Blk.farp; (first | omega | (simp <;> omega))) | with_reducible apply Blk.allocp | with_reducible apply Blk.drew | with_reducible apply Blk.drewN))) hG1 (by simp; omega)
  have cM1 := hM1.cell; have fM1 := hM1.frozen; have lM1 := hM1.lt; have mM1 := Nat.ne_of_gt lM1; have nM1 := Nat.ne_of_lt lM1
  clear hD1' hG1
  obtain ⟨k1, rfl⟩ : ∃ k : Nat, x1 = k := ⟨x1.toNat, by omega⟩
  obtain ⟨b1, hb1⟩ : ∃ b : Nat, b = w.heap.size + 1 := ⟨_, rfl⟩
  rw [← hb1] at hM1 lM1
  go_wp2
  rw [← hb1]
  have hb2 : w.heap.size < b1 := by omega
  have hb3 : ¬ w.heap.size = b1 := by omega
  have hb4 : ¬ b1 = w.heap.size := by omega
  clear cA1 fA1 cM1 fM1 hb1
  go_loopw [4] (fun vk wr => PrSt zs v B G n w b1 vk wr) (fun vk _ => (intOf vk).toNat)
  case atStart => exact ⟨k1, 1, 0, 0, 1, rfl, by omega, Lib.hid (hD1.out.more (by omega)), hA1, hM1, lM1⟩
  case round =>
    obtain ⟨k, p, q, r, s, rfl, hk, hD, hA, hM, hlt⟩ := hrel
    have cM := hM.cell; have fM := hM.frozen; have cA := hA.cell; have fA := hA.frozen
    have lG := hD.out.lt
    have ln := Nat.ne_of_gt hlt
    by_cases hk0 : k = 0
    · subst hk0
      go_wp2
      exact bodyPost_ret (v := .agg #[.int .i64 p, .int .i64 q, .int .i64 r, .int .i64 s]) (by simp [results, Tryz.results22, go_sem, *]) rfl (hfin.out _ _ _ _ _ (by have hd := hD.out.more (show n + 22 - 4 * 0 ≤ n + 22 by omega); clear hD hD1 hD0; exact (by repeat (first | with_reducible assumption | (with_reducible apply Hid.out; assumption) | with_reducible apply Drw.drewN | with_reducible apply Drw.drew | with_reducible apply Drw.alloc | (with_reducible refine Drw.setp ?_ ?_ ?_ ?_; (first | omega | (simp <;> omega)); (first | omega | (simp <;> omega)); (first | omega | (simp <;> omega)))))))
    · obtain ⟨j, rfl⟩ : ∃ j, k = j + 1 := ⟨k - 1, by omega⟩
      have hk1 : 0 < ((j + 1 : Nat) : Int) := by omega
      have hk2 : wrap64 (((j + 1 : Nat) : Int) - 1) = (j : Int) := by rw [IntWalk.wrap64_in _ (by omega)]; omega
      go_wp2_with fail
      refine (pick_d (w0 := w) (n := n + 22 - 4 * (j + 1)) hD.out hB 9 (by omega) (by omega)).mono ?_
      rintro e v2 ⟨x2, rfl, hx2, hD2', hG2⟩
      have hD2 := Lib.hid hD2'
      have hA2 := hA.grown hG2 (by simp; omega)
      have hM2 := hM.grown hG2 (by simp; omega)
      have zG2 := hG2.size
      clear cM fM cA fA hD2' hG2 hA hM
      go_wp2_with fail
      refine (pick_d (w0 := w) (Hid.out hD2) hB 3 (by omega) (by omega)).mono ?_
      rintro e v3 ⟨x3, rfl, hx3, hD3', hG3⟩
      have hD3 := Lib.hid hD3'
      have hA3 := hA2.grown hG3 (by simp; omega)
      have hM3 := hM2.grown hG3 (by simp; omega)
      have zG3 := hG3.size
      have cM := hM3.cell; have fM := hM3.frozen; have cA := hA3.cell; have fA := hA3.frozen
      have lM := hM3.lt
      have lG3 := hD3'.lt
      clear hD3' hG3 hA2 hM2
      have e3 : x3 = 0 ∨ x3 = 1 ∨ x3 = 2 := by omega
      clear hx3
      clear hA1 hM1 lM1 hD1 hD hlt ln
      rcases e3 with rfl | rfl | rfl
      · go_wp2_with (go_at_call 59; (with_reducible refine (foMul_any _ _ _ _ _ _ _ _ _).mono ?_); rintro e v4 ⟨rfl, hB4⟩; have hZ4 := hB4.size; (try simp at hZ4); (try have zl4 : w.heap.size < v4.heap.size := by omega); (try have ze4 : w.heap.size ≤ v4.heap.size := by omega); (try have zn4 : ¬ w.heap.size = v4.heap.size := by omega); (try have zm4 : ¬ v4.heap.size = w.heap.size := by omega); have hA4 : Blk v4 (w.heap.size) 27 #[.int .i64 0, .int .i64 0, .int .i64 0, .int .i64 0] := Blk.call (by (repeat (first | with_reducible assumption | (with_reducible apply Blk.new_at; (first | rfl | (simp; done))) | with_reducible apply Blk.store3 | with_reducible apply Blk.store4 | (with_reducible apply Blk.farp; (first | omega | (simp <;> omega))) | with_reducible apply Blk.allocp | with_reducible apply Blk.drew | with_reducible apply Blk.drewN))) hB4; have cA4 := hA4.cell; have fA4 := hA4.frozen; have lA4 := hA4.lt; have mA4 := Nat.ne_of_gt lA4; have nA4 := Nat.ne_of_lt lA4; have hM4 : Blk v4 (b1) 27 #[.int .i64 p, .int .i64 q, .int .i64 r, .int .i64 s] := Blk.call (by (repeat (first | with_reducible assumption | (with_reducible apply Blk.new_at; (first | rfl | (simp; done))) | with_reducible apply Blk.store3 | with_reducible apply Blk.store4 | (with_reducible apply Blk.farp; (first | omega | (simp <;> omega))) | with_reducible apply Blk.allocp | with_reducible apply Blk.drew | with_reducible apply Blk.drewN))) hB4; have cM4 := hM4.cell; have fM4 := hM4.frozen; have lM4 := hM4.lt; have mM4 := Nat.ne_of_gt lM4; have nM4 := Nat.ne_of_lt lM4)
        refine ⟨⟨j, mm p 1 q 0, mm p (x2 - 4) q 1, mm r 1 s 0, mm r (x2 - 4) s 1, rfl, by omega, Lib.hid ?_, by (repeat (first | with_reducible assumption | (with_reducible apply Blk.new_at; (first | rfl | (simp; done))) | with_reducible apply Blk.store3 | with_reducible apply Blk.store4 | (with_reducible apply Blk.farp; (first | omega | (simp <;> omega))) | with_reducible apply Blk.allocp | with_reducible apply Blk.drew | with_reducible apply Blk.drewN)), by (repeat (first | with_reducible assumption | (with_reducible apply Blk.new_at; (first | rfl | (simp; done))) | with_reducible apply Blk.store3 | with_reducible apply Blk.store4 | (with_reducible apply Blk.farp; (first | omega | (simp <;> omega))) | with_reducible apply Blk.allocp | with_reducible apply Blk.drew | with_reducible apply Blk.drewN)), by simp; omega⟩, by simp [intOf]⟩
        have hd := (hD3.out.call (w1 := v4) hB hB4).more (show n + 22 - 4 * (j + 1) + 2 + 2 ≤ n + 22 - 4 * j by omega)
        exact (by repeat (first | with_reducible assumption | (with_reducible apply Hid.out; assumption) | with_reducible apply Drw.drewN | with_reducible apply Drw.drew | with_reducible apply Drw.alloc | (with_reducible refine Drw.setp ?_ ?_ ?_ ?_; (first | omega | (simp <;> omega)); (first | omega | (simp <;> omega)); (first | omega | (simp <;> omega)))))
      · go_wp2_with (go_at_call 59; (with_reducible refine (foMul_any _ _ _ _ _ _ _ _ _).mono ?_); rintro e v4 ⟨rfl, hB4⟩; have hZ4 := hB4.size; (try simp at hZ4); (try have zl4 : w.heap.size < v4.heap.size := by omega); (try have ze4 : w.heap.size ≤ v4.heap.size := by omega); (try have zn4 : ¬ w.heap.size = v4.heap.size := by omega); (try have zm4 : ¬ v4.heap.size = w.heap.size := by omega); have hA4 : Blk v4 (w.heap.size) 27 #[.int .i64 0, .int .i64 0, .int .i64 0, .int .i64 0] := Blk.call (by (repeat (first | with_reducible assumption | (with_reducible apply Blk.new_at; (first | rfl | (simp; done))) | with_reducible apply Blk.store3 | with_reducible apply Blk.store4 | (with_reducible apply Blk.farp; (first | omega | (simp <;> omega))) | with_reducible apply Blk.allocp | with_reducible apply Blk.drew | with_reducible apply Blk.drewN))) hB4; have cA4 := hA4.cell; have fA4 := hA4.frozen; have lA4 := hA4.lt; have mA4 := Nat.ne_of_gt lA4; have nA4 := Nat.ne_of_lt lA4; have hM4 : Blk v4 (b1) 27 #[.int .i64 p, .int .i64 q, .int .i64 r, .int .i64 s] := Blk.call (by (repeat (first | with_reducible assumption | (with_reducible apply Blk.new_at; (first | rfl | (simp; done))) | with_reducible apply Blk.store3 | with_reducible apply Blk.store4 | (with_reducible apply Blk.farp; (first | omega | (simp <;> omega))) | with_reducible apply Blk.allocp | with_reducible apply Blk.drew | with_reducible apply Blk.drewN))) hB4; have cM4 := hM4.cell; have fM4 := hM4.frozen; have lM4 := hM4.lt; have mM4 := Nat.ne_of_gt lM4; have nM4 := Nat.ne_of_lt lM4)
        refine ⟨⟨j, mm p 1 q (x2 - 4), mm p 0 q 1, mm r 1 s (x2 - 4), mm r 0 s 1, rfl, by omega, Lib.hid ?_, by (repeat (first | with_reducible assumption | (with_reducible apply Blk.new_at; (first | rfl | (simp; done))) | with_reducible apply Blk.store3 | with_reducible apply Blk.store4 | (with_reducible apply Blk.farp; (first | omega | (simp <;> omega))) | with_reducible apply Blk.allocp | with_reducible apply Blk.drew | with_reducible apply Blk.drewN)), by (repeat (first | with_reducible assumption | (with_reducible apply Blk.new_at; (first | rfl | (simp; done))) | with_reducible apply Blk.store3 | with_reducible apply Blk.store4 | (with_reducible apply Blk.farp; (first | omega | (simp <;> omega))) | with_reducible apply Blk.allocp | with_reducible apply Blk.drew | with_reducible apply Blk.drewN)), by simp; omega⟩, by simp [intOf]⟩
        have hd := (hD3.out.call (w1 := v4) hB hB4).more (show n + 22 - 4 * (j + 1) + 2 + 2 ≤ n + 22 - 4 * j by omega)
        exact (by repeat (first | with_reducible assumption | (with_reducible apply Hid.out; assumption) | with_reducible apply Drw.drewN | with_reducible apply Drw.drew | with_reducible apply Drw.alloc | (with_reducible refine Drw.setp ?_ ?_ ?_ ?_; (first | omega | (simp <;> omega)); (first | omega | (simp <;> omega)); (first | omega | (simp <;> omega)))))
      · go_wp2_with (go_at_call 59; (with_reducible refine (foMul_any _ _ _ _ _ _ _ _ _).mono ?_); rintro e v4 ⟨rfl, hB4⟩; have hZ4 := hB4.size; (try simp at hZ4); (try have zl4 : w.heap.size < v4.heap.size := by omega); (try have ze4 : w.heap.size ≤ v4.heap.size := by omega); (try have zn4 : ¬ w.heap.size = v4.heap.size := by omega); (try have zm4 : ¬ v4.heap.size = w.heap.size := by omega); have hA4 : Blk v4 (w.heap.size) 27 #[.int .i64 0, .int .i64 0, .int .i64 0, .int .i64 0] := Blk.call (by (repeat (first | with_reducible assumption | (with_reducible apply Blk.new_at; (first | rfl | (simp; done))) | with_reducible apply Blk.store3 | with_reducible apply Blk.store4 | (with_reducible apply Blk.farp; (first | omega | (simp <;> omega))) | with_reducible apply Blk.allocp | with_reducible apply Blk.drew | with_reducible apply Blk.drewN))) hB4; have cA4 := hA4.cell; have fA4 := hA4.frozen; have lA4 := hA4.lt; have mA4 := Nat.ne_of_gt lA4; have nA4 := Nat.ne_of_lt lA4; have hM4 : Blk v4 (b1) 27 #[.int .i64 p, .int .i64 q, .int .i64 r, .int .i64 s] := Blk.call (by (repeat (first | with_reducible assumption | (with_reducible apply Blk.new_at; (first | rfl | (simp; done))) | with_reducible apply Blk.store3 | with_reducible apply Blk.store4 | (with_reducible apply Blk.farp; (first | omega | (simp <;> omega))) | with_reducible apply Blk.allocp | with_reducible apply Blk.drew | with_reducible apply Blk.drewN))) hB4; have cM4 := hM4.cell; have fM4 := hM4.frozen; have lM4 := hM4.lt; have mM4 := Nat.ne_of_gt lM4; have nM4 := Nat.ne_of_lt lM4)
        refine ⟨⟨j, mm p 0 q 1, mm p (-1) q 0, mm r 0 s 1, mm r (-1) s 0, rfl, by omega, Lib.hid ?_, by (repeat (first | with_reducible assumption | (with_reducible apply Blk.new_at; (first | rfl | (simp; done))) | with_reducible apply Blk.store3 | with_reducible apply Blk.store4 | (with_reducible apply Blk.farp; (first | omega | (simp <;> omega))) | with_reducible apply Blk.allocp | with_reducible apply Blk.drew | with_reducible apply Blk.drewN)), by (repeat (first | with_reducible assumption | (with_reducible apply Blk.new_at; (first | rfl | (simp; done))) | with_reducible apply Blk.store3 | with_reducible apply Blk.store4 | (with_reducible apply Blk.farp; (first | omega | (simp <;> omega))) | with_reducible apply Blk.allocp | with_reducible apply Blk.drew | with_reducible apply Blk.drewN)), by simp; omega⟩, by simp [intOf]⟩
        have hd := (hD3.out.call (w1 := v4) hB hB4).more (show n + 22 - 4 * (j + 1) + 2 + 2 ≤ n + 22 - 4 * j by omega)
        exact (by repeat (first | with_reducible assumption | (with_reducible apply Hid.out; assumption) | with_reducible apply Drw.drewN | with_reducible apply Drw.drew | with_reducible apply Drw.alloc | (with_reducible refine Drw.setp ?_ ?_ ?_ ?_; (first | omega | (simp <;> omega)); (first | omega | (simp <;> omega)); (first | omega | (simp <;> omega)))))
end
end

section
open Go.RowKit

theorem dsc_D7 {d : Int} (h : isDisc d = true) : Dsc d := by
  unfold isDisc at h
  simp only [Bool.and_eq_true, decide_eq_true_eq] at h
  exact ⟨h.1, h.2.1, h.2.2⟩
theorem grown_calm {G : Nat} {W v1 : World} (h : W.grownBy v1 (some G)) : (∀ b o, b < W.heap.size → ¬ b = G → v1.cell? ⟨b, o, none⟩ = W.cell? ⟨b, o, none⟩) ∧ (∀ b o, b < W.heap.size → ¬ b = G → v1.frozen? ⟨b, o, none⟩ = W.frozen? ⟨b, o, none⟩) := by
  have k : ∀ b, b < W.heap.size → ¬ b = G → v1.heap[b]? = W.heap[b]? := fun b hb hn => h.block b hb (fun e => hn (by injection e with e))
  refine ⟨fun b o hb hn => ?_, fun b o hb hn => ?_⟩
  · simp only [World.cell?, k b hb hn]
  · simp only [World.frozen?, k b hb hn]
section
variable {zs : List Int} {v : Value} {B G n m : Nat} {w0 w w1 w2 : World}
set_option maxHeartbeats 800000 in
theorem goodDisc_d (h : Drw zs v B G n w0 w) (hB : B ≤ G) (hn : n + 4 ≤ 100000000) :
    Calls Tryz.prog 56 #[.pointer (some ⟨G, 0, none⟩)] w fun e w' => ∃ x : Int, e = .returned (.int .i64 x) ∧ isDisc x = true ∧ Drw zs v B G (n + 4) w0 w' ∧ w.grownBy w' (some G) := by
  have H := Lib.hid h
  have lG0 := h.lt
  have hD0 := Lib.hid (Drw.start h.rd h.cur)
  clear h
  have hfin : Hid (∀ (x : Int) (w' : World), isDisc x = true → Drw zs v B G (n + 4) w w' → ∃ y : Int, Ending.returned (.int .i64 x) = .returned (.int .i64 y) ∧ isDisc y = true ∧ Drw zs v B G (n + 4) w0 w' ∧ w.grownBy w' (some G)) :=
    Lib.hid (fun x w' hx hd => ⟨x, rfl, hx, H.out.next hB hd.cur hd.gr, hd.gr⟩)
  go_enter Tryz.func56, Tryz.ntmps56
  go_wp2_with fail
  refine (disc_d (by repeat (first | with_reducible assumption | (with_reducible apply Hid.out; assumption) | with_reducible apply Drw.drewN | with_reducible apply Drw.drew | with_reducible apply Drw.alloc | (with_reducible refine Drw.setp ?_ ?_ ?_ ?_; (first | omega | (simp <;> omega)); (first | omega | (simp <;> omega)); (first | omega | (simp <;> omega))))) hB (by omega)).mono ?_
  rintro e v1 ⟨x1, rfl, hx1, hD1', hG1⟩
  have hD1 := Lib.hid hD1'
  have lG1 := hD1'.lt
  have zG1 := hG1.size
  (try simp at zG1)
  clear hD1' hG1
  have hRD := Lib.hid (fun w => reDisc_any x1 w)
  cases hc : isDisc x1 with
  | true =>
    rw [hc] at hRD
    have HC := Lib.hid hc
    clear hc hx1
    go_wp2_with (go_at_call 98; (with_reducible refine (hRD.out _).mono ?_); rintro e v ⟨rfl, rfl⟩)
    go_ret
    exact hfin.out _ _ HC.out (by repeat (first | with_reducible assumption | (with_reducible apply Hid.out; assumption) | with_reducible apply Drw.drewN | with_reducible apply Drw.drew | with_reducible apply Drw.alloc | (with_reducible refine Drw.setp ?_ ?_ ?_ ?_; (first | omega | (simp <;> omega)); (first | omega | (simp <;> omega)); (first | omega | (simp <;> omega)))))
  | false =>
    rw [hc] at hRD
    clear hc hx1
    go_wp2_with (go_at_call 98; (with_reducible refine (hRD.out _).mono ?_); rintro e v ⟨rfl, rfl⟩)
    go_ret
    exact hfin.out _ _ (by decide) (by repeat (first | with_reducible assumption | (with_reducible apply Hid.out; assumption) | with_reducible apply Drw.drewN | with_reducible apply Drw.drew | with_reducible apply Drw.alloc | (with_reducible refine Drw.setp ?_ ?_ ?_ ?_; (first | omega | (simp <;> omega)); (first | omega | (simp <;> omega)); (first | omega | (simp <;> omega)))))
set_option maxRecDepth 100000 in
set_option maxHeartbeats 1600000 in
theorem reduced_d (h : Drw zs v B G n w0 w) (hB : B ≤ G) (hn : n + 2 ≤ 100000000) (d : Int) (hd : isDisc d = true) :
    Calls Tryz.prog 57 #[.pointer (some ⟨G, 0, none⟩), .int .i64 d] w fun e w' => ∃ f : Fm, e = .returned (.agg #[.int .i64 f.a, .int .i64 f.b, .int .i64 f.c]) ∧ f ∈ clsL d ∧ Drw zs v B G (n + 2) w0 w' ∧ w.grownBy w' (some G) := by
  have D := dsc_D7 hd
  have H := Lib.hid h
  have lG0 := h.lt
  have hD0 := Lib.hid (Drw.start h.rd h.cur)
  clear h
  have hL0 : 1 ≤ (clsL d).length := List.length_pos_of_mem D.one
  have hL1 := clsL_len d
  have HG := Lib.hid (fun w => reList_any d w D.lo D.hi)
  have hfin : Hid (∀ (x y z : Int) (w' : World), ⟨x, y, z⟩ ∈ clsL d → Drw zs v B G (n + 2) w w' → ∃ f : Fm, Ending.returned (.agg #[.int .i64 x, .int .i64 y, .int .i64 z]) = .returned (.agg #[.int .i64 f.a, .int .i64 f.b, .int .i64 f.c]) ∧ f ∈ clsL d ∧ Drw zs v B G (n + 2) w0 w' ∧ w.grownBy w' (some G)) :=
    Lib.hid (fun x y z w' hx hd => ⟨⟨x, y, z⟩, rfl, hx, H.out.next hB hd.cur hd.gr, hd.gr⟩)
  generalize clsL d = L at *
  clear D hd
  go_enter Tryz.func57, Tryz.ntmps57
  go_wp2_with fail
  refine (HG.out _).mono ?_
  rintro e v1 ⟨vl, rfl, ho1, hb1⟩
  obtain ⟨base, cap, rfl⟩ := own_shape ho1
  have hz1 := hb1.size
  (try simp at hz1)
  have hD1 := Lib.hid ((Drw.alloc hD0.out _).call hB hb1)
  have hA1 : Blk v1 w.heap.size 33 #[.int .i64 0, .int .i64 0, .int .i64 0] := Blk.call (by (repeat (first | with_reducible assumption | (with_reducible apply Blk.new_at; (first | rfl | (simp; done))) | with_reducible apply Blk.store3 | with_reducible apply Blk.store4 | (with_reducible apply Blk.farp; (first | omega | (simp <;> omega))) | with_reducible apply Blk.allocp | with_reducible apply Blk.drew | with_reducible apply Blk.drewN))) hb1
  have lG1 := hD1.out.lt
  have HO1 := Lib.hid ho1
  have h64 : wrap64 (L.length : Int) = L.length := IntWalk.wrap64_in _ (by omega)
  clear ho1 hb1
  go_wp2_with fail
  refine (pick_d (w0 := w) (Hid.out hD1) hB L.length (by omega) (by omega)).mono ?_
  rintro e v2 ⟨x2, rfl, hx2, hD2', hG2⟩
  have hD2 := Lib.hid hD2'
  have hA2 := hA1.grown hG2 (by simp; omega)
  have ho2 := own_drw HO1.out (by simp; omega) hG2
  have hz2 := hG2.size
  obtain ⟨k, rfl⟩ : ∃ k : Nat, x2 = k := ⟨x2.toNat, by omega⟩
  have hk : k < L.length := by omega
  obtain ⟨g, rfl, lg, c1, c2, c3⟩ := own_elem ho2 hk
  have hm := List.getElem_mem hk
  have Hm := Lib.hid (show (⟨L[k].a, L[k].b, L[k].c⟩ : Fm) ∈ L from hm)
  generalize L[k].a = x at c1 Hm
  generalize L[k].b = y at c2 Hm
  generalize L[k].c = z at c3 Hm
  have cA2 := hA2.cell; have fA2 := hA2.frozen; have lA2 := hA2.lt
  clear hD2' hG2 ho2 HO1 hm
  go_wp2
  exact bodyPost_ret (v := .agg #[.int .i64 x, .int .i64 y, .int .i64 z]) (by simp [results, Tryz.results57, go_sem, *]) rfl (hfin.out _ _ _ _ Hm.out (by have hd := hD2.out; clear hD1 hD0 hD2; exact (by repeat (first | with_reducible assumption | (with_reducible apply Hid.out; assumption) | with_reducible apply Drw.drewN | with_reducible apply Drw.drew | with_reducible apply Drw.alloc | (with_reducible refine Drw.setp ?_ ?_ ?_ ?_; (first | omega | (simp <;> omega)); (first | omega | (simp <;> omega)); (first | omega | (simp <;> omega)))))))
set_option maxRecDepth 100000 in
set_option maxHeartbeats 1600000 in
theorem moved_d (h : Drw zs v B G n w0 w) (hB : B ≤ G) (hn : n + 22 ≤ 100000000) (f : Fm) :
    Calls Tryz.prog 79 #[.pointer (some ⟨G, 0, none⟩), .agg #[.int .i64 f.a, .int .i64 f.b, .int .i64 f.c]] w fun e w' => ∃ f : Fm, e = .returned (.agg #[.int .i64 f.a, .int .i64 f.b, .int .i64 f.c]) ∧ True ∧ Drw zs v B G (n + 22) w0 w' ∧ w.grownBy w' (some G) := by
  have H := Lib.hid h
  have lG0 := h.lt
  have hD0 := Lib.hid (Drw.start h.rd h.cur)
  clear h
  have hfin : Hid (∀ (x y z : Int) (w' : World), Drw zs v B G (n + 22) w w' → ∃ f : Fm, Ending.returned (.agg #[.int .i64 x, .int .i64 y, .int .i64 z]) = .returned (.agg #[.int .i64 f.a, .int .i64 f.b, .int .i64 f.c]) ∧ True ∧ Drw zs v B G (n + 22) w0 w' ∧ w.grownBy w' (some G)) :=
    Lib.hid (fun x y z w' hd => ⟨⟨x, y, z⟩, rfl, trivial, H.out.next hB hd.cur hd.gr, hd.gr⟩)
  go_enter Tryz.func79, Tryz.ntmps79
  go_wp2
  have nG1 : ¬ w.heap.size = G := by omega
  have nG2 : ¬ w.heap.size + 1 = G := by omega
  have nG3 : ¬ w.heap.size + 1 + 1 = G := by omega
  have p1 : w.heap.size < w.heap.size + 1 + 1 := by omega
  have p2 : w.heap.size < w.heap.size + 1 + 1 + 1 := by omega
  have p3 : w.heap.size + 1 < w.heap.size + 1 + 1 + 1 := by omega
  go_region_with (first
    | (go_at_call 22; refine (proper_d (by repeat (first | with_reducible assumption | (with_reducible apply Hid.out; assumption) | with_reducible apply Drw.drewN | with_reducible apply Drw.drew | with_reducible apply Drw.alloc | (with_reducible refine Drw.setp ?_ ?_ ?_ ?_; (first | omega | (simp <;> omega)); (first | omega | (simp <;> omega)); (first | omega | (simp <;> omega))))) hB (by omega)).mono ?_; rintro e v1 ⟨x1, rfl, hx1, hD1', hG1⟩; have hD1 := Lib.hid hD1'; have zG1 := hG1.size; (try simp at zG1); have lG1 := hD1'.lt
       have hcc := (grown_calm hG1).1; have hff := (grown_calm hG1).2
       have cA1 := fun o => hcc w.heap.size o; have fA1 := fun o => hff w.heap.size o; have cR1 := fun o => hcc (w.heap.size + 1) o; have fR1 := fun o => hff (w.heap.size + 1) o
       have cP1 := fun o => hcc (w.heap.size + 1 + 1) o; have fP1 := fun o => hff (w.heap.size + 1 + 1) o
       (try simp [nG1, p1, p2] at cA1); (try simp [nG1, p1, p2] at fA1); (try simp [nG2, p3] at cR1); (try simp [nG2, p3] at fR1); (try simp [nG3] at cP1); (try simp [nG3] at fP1)
       have q0 : w.heap.size < v1.heap.size := by omega
       have q1 : w.heap.size + 1 < v1.heap.size := by omega
       (try have q2 : w.heap.size + 1 + 1 < v1.heap.size := by omega)
       have q3 : w.heap.size < v1.heap.size + 1 := by omega
       have q4 : w.heap.size + 1 < v1.heap.size + 1 := by omega
       have q5 : ¬ w.heap.size = v1.heap.size := by omega
       have q6 : ¬ w.heap.size + 1 = v1.heap.size := by omega
       have q7 : ¬ v1.heap.size = w.heap.size := by omega
       have q8 : ¬ v1.heap.size = w.heap.size + 1 := by omega
       clear hD1' hG1 hcc hff)
    | (go_at_call 109; refine (foAct_w _ _ _ _ _ _ _ _).mono ?_; rintro e v2 ⟨rfl, hB2⟩; have zB2 := hB2.size; (try simp at zB2)
       have hcc := (calm_cells hB2).1; have hff := (calm_cells hB2).2
       have cA2 := fun o => hcc w.heap.size o; have fA2 := fun o => hff w.heap.size o; have cR2 := fun o => hcc (w.heap.size + 1) o; have fR2 := fun o => hff (w.heap.size + 1) o
       have cP2 := fun o => hcc (w.heap.size + 1 + 1) o; have fP2 := fun o => hff (w.heap.size + 1 + 1) o
       have cQ2 := fun o => hcc v1.heap.size o; have fQ2 := fun o => hff v1.heap.size o
       (try simp [q0, q3, cA1] at cA2); (try simp [q0, q3, fA1] at fA2); (try simp [q1, q4, cR1] at cR2); (try simp [q1, q4, fR1] at fR2); (try simp [q2, cP1] at cP2); (try simp [q2, fP1] at fP2); (try simp at cQ2); (try simp at fQ2)
       have r5 : ¬ w.heap.size = v2.heap.size := by omega
       have r6 : ¬ w.heap.size + 1 = v2.heap.size := by omega
       have r7 : ¬ v2.heap.size = w.heap.size := by omega
       have r8 : ¬ v2.heap.size = w.heap.size + 1 := by omega
       have hD2 := Lib.hid (Drw.call (by repeat (first | with_reducible assumption | (with_reducible apply Hid.out; assumption) | with_reducible apply Drw.drewN | with_reducible apply Drw.drew | with_reducible apply Drw.alloc | (with_reducible refine Drw.setp ?_ ?_ ?_ ?_; (first | omega | (simp <;> omega)); (first | omega | (simp <;> omega)); (first | omega | (simp <;> omega))))) hB hB2)
       (try have s2 : w.heap.size + 1 + 1 < v2.heap.size := by omega)
       (try have s3 : v1.heap.size < v2.heap.size := by omega)
       have s0 : w.heap.size < v2.heap.size := by omega
       have s1 : w.heap.size + 1 < v2.heap.size := by omega
       have s4 : w.heap.size < v2.heap.size + 1 := by omega
       have s5 : w.heap.size + 1 < v2.heap.size + 1 := by omega
       clear hcc hff))
  all_goals
    clear hD1 hD0
    generalize atW f.a f.b f.c x1.fst x1.snd.snd.fst = X at *
    generalize polW f.a f.b f.c x1.fst x1.snd.snd.fst x1.snd.fst x1.snd.snd.snd = Y at *
    generalize atW f.a f.b f.c x1.snd.fst x1.snd.snd.snd = Z at *
    have hGd := Lib.hid (fun w => foGood_any X Y Z w)
    generalize isFm X Y Z = b at hGd
    cases b
    · go_wp2_with (go_at_call 110; refine (hGd.out _).mono ?_; rintro e v3 ⟨rfl, hB3⟩; have hcc := (calm_cells hB3).1; have hff := (calm_cells hB3).2)
      exact bodyPost_ret (v := .agg #[.int .i64 f.a, .int .i64 f.b, .int .i64 f.c]) (by simp [results, Tryz.results79, go_sem, *]) rfl (hfin.out _ _ _ _ (by have hd : Drw zs v B G (n + 22) w v3 := Drw.call (w := _) (by repeat (first | with_reducible assumption | (with_reducible apply Hid.out; assumption) | with_reducible apply Drw.drewN | with_reducible apply Drw.drew | with_reducible apply Drw.alloc | (with_reducible refine Drw.setp ?_ ?_ ?_ ?_; (first | omega | (simp <;> omega)); (first | omega | (simp <;> omega)); (first | omega | (simp <;> omega))))) hB hB3; clear hD2; exact (by repeat (first | with_reducible assumption | (with_reducible apply Hid.out; assumption) | with_reducible apply Drw.drewN | with_reducible apply Drw.drew | with_reducible apply Drw.alloc | (with_reducible refine Drw.setp ?_ ?_ ?_ ?_; (first | omega | (simp <;> omega)); (first | omega | (simp <;> omega)); (first | omega | (simp <;> omega)))))))
    · go_wp2_with (go_at_call 110; refine (hGd.out _).mono ?_; rintro e v3 ⟨rfl, hB3⟩; have hcc := (calm_cells hB3).1; have hff := (calm_cells hB3).2)
      exact bodyPost_ret (v := .agg #[.int .i64 X, .int .i64 Y, .int .i64 Z]) (by simp [results, Tryz.results79, go_sem, *]) rfl (hfin.out _ _ _ _ (by have hd : Drw zs v B G (n + 22) w v3 := Drw.call (w := _) (by repeat (first | with_reducible assumption | (with_reducible apply Hid.out; assumption) | with_reducible apply Drw.drewN | with_reducible apply Drw.drew | with_reducible apply Drw.alloc | (with_reducible refine Drw.setp ?_ ?_ ?_ ?_; (first | omega | (simp <;> omega)); (first | omega | (simp <;> omega)); (first | omega | (simp <;> omega))))) hB hB3; clear hD2; exact (by repeat (first | with_reducible assumption | (with_reducible apply Hid.out; assumption) | with_reducible apply Drw.drewN | with_reducible apply Drw.drew | with_reducible apply Drw.alloc | (with_reducible refine Drw.setp ?_ ?_ ?_ ?_; (first | omega | (simp <;> omega)); (first | omega | (simp <;> omega)); (first | omega | (simp <;> omega)))))))
end
end

section
open Go.RowKit

section
variable {zs : List Int} {v : Value} {B G n m : Nat} {w0 w w1 w2 : World}
set_option maxRecDepth 100000 in
set_option maxHeartbeats 1600000 in
theorem definite_d (h : Drw zs v B G n w0 w) (hB : B ≤ G) (hn : n + 32 ≤ 100000000) :
    Calls Tryz.prog 106 #[.pointer (some ⟨G, 0, none⟩)] w fun e w' => ∃ f : Fm, e = .returned (.agg #[.int .i64 f.a, .int .i64 f.b, .int .i64 f.c]) ∧ True ∧ Drw zs v B G (n + 32) w0 w' ∧ w.grownBy w' (some G) := by
  have H := Lib.hid h
  have lG0 := h.lt
  have hD0 := Lib.hid (Drw.start h.rd h.cur)
  clear h
  have hfin : Hid (∀ (x y z : Int) (w' : World), Drw zs v B G (n + 32) w w' → ∃ f : Fm, Ending.returned (.agg #[.int .i64 x, .int .i64 y, .int .i64 z]) = .returned (.agg #[.int .i64 f.a, .int .i64 f.b, .int .i64 f.c]) ∧ True ∧ Drw zs v B G (n + 32) w0 w' ∧ w.grownBy w' (some G)) :=
    Lib.hid (fun x y z w' hd => ⟨⟨x, y, z⟩, rfl, trivial, H.out.next hB hd.cur hd.gr, hd.gr⟩)
  go_enter Tryz.func106, Tryz.ntmps106
  go_wp2_with fail
  refine (pick_d (by repeat (first | with_reducible assumption | (with_reducible apply Hid.out; assumption) | with_reducible apply Drw.drewN | with_reducible apply Drw.drew | with_reducible apply Drw.alloc | (with_reducible refine Drw.setp ?_ ?_ ?_ ?_; (first | omega | (simp <;> omega)); (first | omega | (simp <;> omega)); (first | omega | (simp <;> omega))))) hB 12 (by omega) (by omega)).mono ?_
  rintro e v1 ⟨x1, rfl, hx1, hD1', hG1⟩
  have hD1 := Lib.hid hD1'
  have lG1 := hD1'.lt
  have zG1 := hG1.size
  (try simp at zG1)
  have hA1 : Blk v1 (w.heap.size) 33 #[.int .i64 0, .int .i64 0, .int .i64 0] := Blk.grown (by (repeat (first | with_reducible assumption | (with_reducible apply Blk.new_at; (first | rfl | (simp; done))) | with_reducible apply Blk.store3 | with_reducible apply Blk.store4 | (with_reducible apply Blk.farp; (first | omega | (simp <;> omega))) | with_reducible apply Blk.allocp | with_reducible apply Blk.drew | with_reducible apply Blk.drewN))) hG1 (by simp; omega)
  have cA1 := hA1.cell; have fA1 := hA1.frozen; have lA1 := hA1.lt; have mA1 := Nat.ne_of_gt lA1; have nA1 := Nat.ne_of_lt lA1
  clear hD1' hG1
  by_cases e0 : x1 = 0
  · subst e0
    clear hx1
    go_wp2_with fail
    refine (form_d (by repeat (first | with_reducible assumption | (with_reducible apply Hid.out; assumption) | with_reducible apply Drw.drewN | with_reducible apply Drw.drew | with_reducible apply Drw.alloc | (with_reducible refine Drw.setp ?_ ?_ ?_ ?_; (first | omega | (simp <;> omega)); (first | omega | (simp <;> omega)); (first | omega | (simp <;> omega))))) hB (by omega)).mono ?_
    rintro e v2 ⟨f2, rfl, hx2, hD2', hG2⟩
    have hD2 := Lib.hid hD2'
    have lG2 := hD2'.lt
    have zG2 := hG2.size
    (try simp at zG2)
    have hA2 : Blk v2 (w.heap.size) 33 #[.int .i64 0, .int .i64 0, .int .i64 0] := Blk.grown (by (repeat (first | with_reducible assumption | (with_reducible apply Blk.new_at; (first | rfl | (simp; done))) | with_reducible apply Blk.store3 | with_reducible apply Blk.store4 | (with_reducible apply Blk.farp; (first | omega | (simp <;> omega))) | with_reducible apply Blk.allocp | with_reducible apply Blk.drew | with_reducible apply Blk.drewN))) hG2 (by simp; omega)
    have cA2 := hA2.cell; have fA2 := hA2.frozen; have lA2 := hA2.lt; have mA2 := Nat.ne_of_gt lA2; have nA2 := Nat.ne_of_lt lA2
    clear hD2' hG2
    go_wp2
    exact bodyPost_ret (v := .agg #[.int .i64 f2.a, .int .i64 f2.b, .int .i64 f2.c]) (by simp [results, Tryz.results106, go_sem, *]) rfl (hfin.out _ _ _ _ (Drw.more (n := n + 2 + 26) (by repeat (first | with_reducible assumption | (with_reducible apply Hid.out; assumption) | with_reducible apply Drw.drewN | with_reducible apply Drw.drew | with_reducible apply Drw.alloc | (with_reducible refine Drw.setp ?_ ?_ ?_ ?_; (first | omega | (simp <;> omega)); (first | omega | (simp <;> omega)); (first | omega | (simp <;> omega))))) (by omega)))
  · have n0 : (x1 == 0) = false := by rw [beq_eq_false_iff_ne]; exact e0
    by_cases e1 : x1 = 1
    · subst e1
      clear hx1 e0 n0
      go_wp2_with fail
      refine (goodDisc_d (by repeat (first | with_reducible assumption | (with_reducible apply Hid.out; assumption) | with_reducible apply Drw.drewN | with_reducible apply Drw.drew | with_reducible apply Drw.alloc | (with_reducible refine Drw.setp ?_ ?_ ?_ ?_; (first | omega | (simp <;> omega)); (first | omega | (simp <;> omega)); (first | omega | (simp <;> omega))))) hB (by omega)).mono ?_
      rintro e v2 ⟨d2, rfl, hx2, hD2', hG2⟩
      have hD2 := Lib.hid hD2'
      have lG2 := hD2'.lt
      have zG2 := hG2.size
      (try simp at zG2)
      have hA2 : Blk v2 (w.heap.size) 33 #[.int .i64 0, .int .i64 0, .int .i64 0] := Blk.grown (by (repeat (first | with_reducible assumption | (with_reducible apply Blk.new_at; (first | rfl | (simp; done))) | with_reducible apply Blk.store3 | with_reducible apply Blk.store4 | (with_reducible apply Blk.farp; (first | omega | (simp <;> omega))) | with_reducible apply Blk.allocp | with_reducible apply Blk.drew | with_reducible apply Blk.drewN))) hG2 (by simp; omega)
      have cA2 := hA2.cell; have fA2 := hA2.frozen; have lA2 := hA2.lt; have mA2 := Nat.ne_of_gt lA2; have nA2 := Nat.ne_of_lt lA2
      clear hD2' hG2
      have HX2 := Lib.hid hx2
      clear hx2
      go_wp2_with fail
      refine (reduced_d (by repeat (first | with_reducible assumption | (with_reducible apply Hid.out; assumption) | with_reducible apply Drw.drewN | with_reducible apply Drw.drew | with_reducible apply Drw.alloc | (with_reducible refine Drw.setp ?_ ?_ ?_ ?_; (first | omega | (simp <;> omega)); (first | omega | (simp <;> omega)); (first | omega | (simp <;> omega))))) hB (by omega) d2 HX2.out).mono ?_
      rintro e v3 ⟨f3, rfl, hx3, hD3', hG3⟩
      have hD3 := Lib.hid hD3'
      have lG3 := hD3'.lt
      have zG3 := hG3.size
      (try simp at zG3)
      have hA3 : Blk v3 (w.heap.size) 33 #[.int .i64 0, .int .i64 0, .int .i64 0] := Blk.grown (by (repeat (first | with_reducible assumption | (with_reducible apply Blk.new_at; (first | rfl | (simp; done))) | with_reducible apply Blk.store3 | with_reducible apply Blk.store4 | (with_reducible apply Blk.farp; (first | omega | (simp <;> omega))) | with_reducible apply Blk.allocp | with_reducible apply Blk.drew | with_reducible apply Blk.drewN))) hG3 (by simp; omega)
      have cA3 := hA3.cell; have fA3 := hA3.frozen; have lA3 := hA3.lt; have mA3 := Nat.ne_of_gt lA3; have nA3 := Nat.ne_of_lt lA3
      clear hD3' hG3
      clear hx3
      go_wp2_with fail
      refine (pick_d (by repeat (first | with_reducible assumption | (with_reducible apply Hid.out; assumption) | with_reducible apply Drw.drewN | with_reducible apply Drw.drew | with_reducible apply Drw.alloc | (with_reducible refine Drw.setp ?_ ?_ ?_ ?_; (first | omega | (simp <;> omega)); (first | omega | (simp <;> omega)); (first | omega | (simp <;> omega))))) hB 5 (by omega) (by omega)).mono ?_
      rintro e v4 ⟨x4, rfl, hx4, hD4', hG4⟩
      have hD4 := Lib.hid hD4'
      have lG4 := hD4'.lt
      have zG4 := hG4.size
      (try simp at zG4)
      have hA4 : Blk v4 (w.heap.size) 33 #[.int .i64 0, .int .i64 0, .int .i64 0] := Blk.grown (by (repeat (first | with_reducible assumption | (with_reducible apply Blk.new_at; (first | rfl | (simp; done))) | with_reducible apply Blk.store3 | with_reducible apply Blk.store4 | (with_reducible apply Blk.farp; (first | omega | (simp <;> omega))) | with_reducible apply Blk.allocp | with_reducible apply Blk.drew | with_reducible apply Blk.drewN))) hG4 (by simp; omega)
      have cA4 := hA4.cell; have fA4 := hA4.frozen; have lA4 := hA4.lt; have mA4 := Nat.ne_of_gt lA4; have nA4 := Nat.ne_of_lt lA4
      have hP4 : Blk v4 (v3.heap.size) 33 #[.int .i64 f3.a, .int .i64 f3.b, .int .i64 f3.c] := Blk.grown (by (repeat (first | with_reducible assumption | (with_reducible apply Blk.new_at; (first | rfl | (simp; done))) | with_reducible apply Blk.store3 | with_reducible apply Blk.store4 | (with_reducible apply Blk.farp; (first | omega | (simp <;> omega))) | with_reducible apply Blk.allocp | with_reducible apply Blk.drew | with_reducible apply Blk.drewN))) hG4 (by simp; omega)
      have cP4 := hP4.cell; have fP4 := hP4.frozen; have lP4 := hP4.lt; have mP4 := Nat.ne_of_gt lP4; have nP4 := Nat.ne_of_lt lP4
      clear hD4' hG4
      go_wp2_with fail
      refine (moved_d (by repeat (first | with_reducible assumption | (with_reducible apply Hid.out; assumption) | with_reducible apply Drw.drewN | with_reducible apply Drw.drew | with_reducible apply Drw.alloc | (with_reducible refine Drw.setp ?_ ?_ ?_ ?_; (first | omega | (simp <;> omega)); (first | omega | (simp <;> omega)); (first | omega | (simp <;> omega))))) hB (by omega) ⟨_, _, _⟩).mono ?_
      rintro e v5 ⟨f5, rfl, hx5, hD5', hG5⟩
      have hD5 := Lib.hid hD5'
      have lG5 := hD5'.lt
      have zG5 := hG5.size
      (try simp at zG5)
      have hA5 : Blk v5 (w.heap.size) 33 #[.int .i64 0, .int .i64 0, .int .i64 0] := Blk.grown (by (repeat (first | with_reducible assumption | (with_reducible apply Blk.new_at; (first | rfl | (simp; done))) | with_reducible apply Blk.store3 | with_reducible apply Blk.store4 | (with_reducible apply Blk.farp; (first | omega | (simp <;> omega))) | with_reducible apply Blk.allocp | with_reducible apply Blk.drew | with_reducible apply Blk.drewN))) hG5 (by simp; omega)
      have cA5 := hA5.cell; have fA5 := hA5.frozen; have lA5 := hA5.lt; have mA5 := Nat.ne_of_gt lA5; have nA5 := Nat.ne_of_lt lA5
      clear hD5' hG5
      go_wp2
      exact bodyPost_ret (v := .agg #[.int .i64 f5.a, .int .i64 f5.b, .int .i64 f5.c]) (by simp [results, Tryz.results106, go_sem, *]) rfl (hfin.out _ _ _ _ (Drw.more (n := n + 2 + 4 + 2 + 2 + 22) (by repeat (first | with_reducible assumption | (with_reducible apply Hid.out; assumption) | with_reducible apply Drw.drewN | with_reducible apply Drw.drew | with_reducible apply Drw.alloc | (with_reducible refine Drw.setp ?_ ?_ ?_ ?_; (first | omega | (simp <;> omega)); (first | omega | (simp <;> omega)); (first | omega | (simp <;> omega))))) (by omega)))
    · have n1 : (x1 == 1) = false := by rw [beq_eq_false_iff_ne]; exact e1
      by_cases e2 : x1 = 2
      · subst e2
        clear hx1 e0 n0 e1 n1
        go_wp2_with fail
        refine (pick_d (by repeat (first | with_reducible assumption | (with_reducible apply Hid.out; assumption) | with_reducible apply Drw.drewN | with_reducible apply Drw.drew | with_reducible apply Drw.alloc | (with_reducible refine Drw.setp ?_ ?_ ?_ ?_; (first | omega | (simp <;> omega)); (first | omega | (simp <;> omega)); (first | omega | (simp <;> omega))))) hB 1000000 (by omega) (by omega)).mono ?_
        rintro e v3 ⟨x3, rfl, hx3, hD3', hG3⟩
        have hD3 := Lib.hid hD3'
        have lG3 := hD3'.lt
        have zG3 := hG3.size
        (try simp at zG3)
        have hA3 : Blk v3 (w.heap.size) 33 #[.int .i64 0, .int .i64 0, .int .i64 0] := Blk.grown (by (repeat (first | with_reducible assumption | (with_reducible apply Blk.new_at; (first | rfl | (simp; done))) | with_reducible apply Blk.store3 | with_reducible apply Blk.store4 | (with_reducible apply Blk.farp; (first | omega | (simp <;> omega))) | with_reducible apply Blk.allocp | with_reducible apply Blk.drew | with_reducible apply Blk.drewN))) hG3 (by simp; omega)
        have cA3 := hA3.cell; have fA3 := hA3.frozen; have lA3 := hA3.lt; have mA3 := Nat.ne_of_gt lA3; have nA3 := Nat.ne_of_lt lA3
        clear hD3' hG3
        go_wp2_with fail
        refine (pick_d (by repeat (first | with_reducible assumption | (with_reducible apply Hid.out; assumption) | with_reducible apply Drw.drewN | with_reducible apply Drw.drew | with_reducible apply Drw.alloc | (with_reducible refine Drw.setp ?_ ?_ ?_ ?_; (first | omega | (simp <;> omega)); (first | omega | (simp <;> omega)); (first | omega | (simp <;> omega))))) hB 1000001 (by omega) (by omega)).mono ?_
        rintro e v4 ⟨x4, rfl, hx4, hD4', hG4⟩
        have hD4 := Lib.hid hD4'
        have lG4 := hD4'.lt
        have zG4 := hG4.size
        (try simp at zG4)
        have hA4 : Blk v4 (w.heap.size) 33 #[.int .i64 0, .int .i64 0, .int .i64 0] := Blk.grown (by (repeat (first | with_reducible assumption | (with_reducible apply Blk.new_at; (first | rfl | (simp; done))) | with_reducible apply Blk.store3 | with_reducible apply Blk.store4 | (with_reducible apply Blk.farp; (first | omega | (simp <;> omega))) | with_reducible apply Blk.allocp | with_reducible apply Blk.drew | with_reducible apply Blk.drewN))) hG4 (by simp; omega)
        have cA4 := hA4.cell; have fA4 := hA4.frozen; have lA4 := hA4.lt; have mA4 := Nat.ne_of_gt lA4; have nA4 := Nat.ne_of_lt lA4
        clear hD4' hG4
        go_wp2_with fail
        refine (pick_d (by repeat (first | with_reducible assumption | (with_reducible apply Hid.out; assumption) | with_reducible apply Drw.drewN | with_reducible apply Drw.drew | with_reducible apply Drw.alloc | (with_reducible refine Drw.setp ?_ ?_ ?_ ?_; (first | omega | (simp <;> omega)); (first | omega | (simp <;> omega)); (first | omega | (simp <;> omega))))) hB 750001 (by omega) (by omega)).mono ?_
        rintro e v5 ⟨x5, rfl, hx5, hD5', hG5⟩
        have hD5 := Lib.hid hD5'
        have lG5 := hD5'.lt
        have zG5 := hG5.size
        (try simp at zG5)
        have hA5 : Blk v5 (w.heap.size) 33 #[.int .i64 0, .int .i64 0, .int .i64 0] := Blk.grown (by (repeat (first | with_reducible assumption | (with_reducible apply Blk.new_at; (first | rfl | (simp; done))) | with_reducible apply Blk.store3 | with_reducible apply Blk.store4 | (with_reducible apply Blk.farp; (first | omega | (simp <;> omega))) | with_reducible apply Blk.allocp | with_reducible apply Blk.drew | with_reducible apply Blk.drewN))) hG5 (by simp; omega)
        have cA5 := hA5.cell; have fA5 := hA5.frozen; have lA5 := hA5.lt; have mA5 := Nat.ne_of_gt lA5; have nA5 := Nat.ne_of_lt lA5
        clear hD5' hG5
        go_wp2
        exact bodyPost_ret (v := .agg #[.int .i64 (1 + x3), .int .i64 x4, .int .i64 (250000 + x5)]) (by simp [results, Tryz.results106, go_sem, *]) rfl (hfin.out _ _ _ _ (Drw.more (n := n + 2 + 2 + 2 + 2) (by repeat (first | with_reducible assumption | (with_reducible apply Hid.out; assumption) | with_reducible apply Drw.drewN | with_reducible apply Drw.drew | with_reducible apply Drw.alloc | (with_reducible refine Drw.setp ?_ ?_ ?_ ?_; (first | omega | (simp <;> omega)); (first | omega | (simp <;> omega)); (first | omega | (simp <;> omega))))) (by omega)))
      · have n2 : (x1 == 2) = false := by rw [beq_eq_false_iff_ne]; exact e2
        clear hx1 e0 e1 e2
        go_wp2_with fail
        refine (goodDisc_d (by repeat (first | with_reducible assumption | (with_reducible apply Hid.out; assumption) | with_reducible apply Drw.drewN | with_reducible apply Drw.drew | with_reducible apply Drw.alloc | (with_reducible refine Drw.setp ?_ ?_ ?_ ?_; (first | omega | (simp <;> omega)); (first | omega | (simp <;> omega)); (first | omega | (simp <;> omega))))) hB (by omega)).mono ?_
        rintro e v2 ⟨d2, rfl, hx2, hD2', hG2⟩
        have hD2 := Lib.hid hD2'
        have lG2 := hD2'.lt
        have zG2 := hG2.size
        (try simp at zG2)
        have hA2 : Blk v2 (w.heap.size) 33 #[.int .i64 0, .int .i64 0, .int .i64 0] := Blk.grown (by (repeat (first | with_reducible assumption | (with_reducible apply Blk.new_at; (first | rfl | (simp; done))) | with_reducible apply Blk.store3 | with_reducible apply Blk.store4 | (with_reducible apply Blk.farp; (first | omega | (simp <;> omega))) | with_reducible apply Blk.allocp | with_reducible apply Blk.drew | with_reducible apply Blk.drewN))) hG2 (by simp; omega)
        have cA2 := hA2.cell; have fA2 := hA2.frozen; have lA2 := hA2.lt; have mA2 := Nat.ne_of_gt lA2; have nA2 := Nat.ne_of_lt lA2
        clear hD2' hG2
        have HX2 := Lib.hid hx2
        clear hx2
        go_wp2_with fail
        refine (reduced_d (by repeat (first | with_reducible assumption | (with_reducible apply Hid.out; assumption) | with_reducible apply Drw.drewN | with_reducible apply Drw.drew | with_reducible apply Drw.alloc | (with_reducible refine Drw.setp ?_ ?_ ?_ ?_; (first | omega | (simp <;> omega)); (first | omega | (simp <;> omega)); (first | omega | (simp <;> omega))))) hB (by omega) d2 HX2.out).mono ?_
        rintro e v3 ⟨f3, rfl, hx3, hD3', hG3⟩
        have hD3 := Lib.hid hD3'
        have lG3 := hD3'.lt
        have zG3 := hG3.size
        (try simp at zG3)
        have hA3 : Blk v3 (w.heap.size) 33 #[.int .i64 0, .int .i64 0, .int .i64 0] := Blk.grown (by (repeat (first | with_reducible assumption | (with_reducible apply Blk.new_at; (first | rfl | (simp; done))) | with_reducible apply Blk.store3 | with_reducible apply Blk.store4 | (with_reducible apply Blk.farp; (first | omega | (simp <;> omega))) | with_reducible apply Blk.allocp | with_reducible apply Blk.drew | with_reducible apply Blk.drewN))) hG3 (by simp; omega)
        have cA3 := hA3.cell; have fA3 := hA3.frozen; have lA3 := hA3.lt; have mA3 := Nat.ne_of_gt lA3; have nA3 := Nat.ne_of_lt lA3
        clear hD3' hG3
        clear hx3
        go_wp2_with fail
        refine (moved_d (by repeat (first | with_reducible assumption | (with_reducible apply Hid.out; assumption) | with_reducible apply Drw.drewN | with_reducible apply Drw.drew | with_reducible apply Drw.alloc | (with_reducible refine Drw.setp ?_ ?_ ?_ ?_; (first | omega | (simp <;> omega)); (first | omega | (simp <;> omega)); (first | omega | (simp <;> omega))))) hB (by omega) f3).mono ?_
        rintro e v4 ⟨f4, rfl, hx4, hD4', hG4⟩
        have hD4 := Lib.hid hD4'
        have lG4 := hD4'.lt
        have zG4 := hG4.size
        (try simp at zG4)
        have hA4 : Blk v4 (w.heap.size) 33 #[.int .i64 0, .int .i64 0, .int .i64 0] := Blk.grown (by (repeat (first | with_reducible assumption | (with_reducible apply Blk.new_at; (first | rfl | (simp; done))) | with_reducible apply Blk.store3 | with_reducible apply Blk.store4 | (with_reducible apply Blk.farp; (first | omega | (simp <;> omega))) | with_reducible apply Blk.allocp | with_reducible apply Blk.drew | with_reducible apply Blk.drewN))) hG4 (by simp; omega)
        have cA4 := hA4.cell; have fA4 := hA4.frozen; have lA4 := hA4.lt; have mA4 := Nat.ne_of_gt lA4; have nA4 := Nat.ne_of_lt lA4
        clear hD4' hG4
        go_wp2
        exact bodyPost_ret (v := .agg #[.int .i64 f4.a, .int .i64 f4.b, .int .i64 f4.c]) (by simp [results, Tryz.results106, go_sem, *]) rfl (hfin.out _ _ _ _ (Drw.more (n := n + 2 + 4 + 2 + 22) (by repeat (first | with_reducible assumption | (with_reducible apply Hid.out; assumption) | with_reducible apply Drw.drewN | with_reducible apply Drw.drew | with_reducible apply Drw.alloc | (with_reducible refine Drw.setp ?_ ?_ ?_ ?_; (first | omega | (simp <;> omega)); (first | omega | (simp <;> omega)); (first | omega | (simp <;> omega))))) (by omega)))
set_option maxRecDepth 100000 in
set_option maxHeartbeats 1600000 in
theorem classForm_d (h : Drw zs v B G n w0 w) (hB : B ≤ G) (hn : n + 34 ≤ 100000000) :
    Calls Tryz.prog 76 #[.pointer (some ⟨G, 0, none⟩)] w fun e w' => ∃ f : Fm, e = .returned (.agg #[.int .i64 f.a, .int .i64 f.b, .int .i64 f.c]) ∧ True ∧ Drw zs v B G (n + 34) w0 w' ∧ w.grownBy w' (some G) := by
  have H := Lib.hid h
  have lG0 := h.lt
  have hD0 := Lib.hid (Drw.start h.rd h.cur)
  clear h
  have hfin : Hid (∀ (x y z : Int) (w' : World), Drw zs v B G (n + 34) w w' → ∃ f : Fm, Ending.returned (.agg #[.int .i64 x, .int .i64 y, .int .i64 z]) = .returned (.agg #[.int .i64 f.a, .int .i64 f.b, .int .i64 f.c]) ∧ True ∧ Drw zs v B G (n + 34) w0 w' ∧ w.grownBy w' (some G)) :=
    Lib.hid (fun x y z w' hd => ⟨⟨x, y, z⟩, rfl, trivial, H.out.next hB hd.cur hd.gr, hd.gr⟩)
  go_enter Tryz.func76, Tryz.ntmps76
  go_wp2_with fail
  refine (one_d (by repeat (first | with_reducible assumption | (with_reducible apply Hid.out; assumption) | with_reducible apply Drw.drewN | with_reducible apply Drw.drew | with_reducible apply Drw.alloc | (with_reducible refine Drw.setp ?_ ?_ ?_ ?_; (first | omega | (simp <;> omega)); (first | omega | (simp <;> omega)); (first | omega | (simp <;> omega))))) hB 12 (by omega) (by omega)).mono ?_
  rintro e v1 ⟨x1, rfl, hx1, hD1', hG1⟩
  have hD1 := Lib.hid hD1'
  have lG1 := hD1'.lt
  have zG1 := hG1.size
  (try simp at zG1)
  have hA1 : Blk v1 (w.heap.size) 33 #[.int .i64 0, .int .i64 0, .int .i64 0] := Blk.grown (by (repeat (first | with_reducible assumption | (with_reducible apply Blk.new_at; (first | rfl | (simp; done))) | with_reducible apply Blk.store3 | with_reducible apply Blk.store4 | (with_reducible apply Blk.farp; (first | omega | (simp <;> omega))) | with_reducible apply Blk.allocp | with_reducible apply Blk.drew | with_reducible apply Blk.drewN))) hG1 (by simp; omega)
  have cA1 := hA1.cell; have fA1 := hA1.frozen; have lA1 := hA1.lt; have mA1 := Nat.ne_of_gt lA1; have nA1 := Nat.ne_of_lt lA1
  clear hD1' hG1
  cases x1 with
  | true =>
    go_wp2_with fail
    refine (definite_d (by repeat (first | with_reducible assumption | (with_reducible apply Hid.out; assumption) | with_reducible apply Drw.drewN | with_reducible apply Drw.drew | with_reducible apply Drw.alloc | (with_reducible refine Drw.setp ?_ ?_ ?_ ?_; (first | omega | (simp <;> omega)); (first | omega | (simp <;> omega)); (first | omega | (simp <;> omega))))) hB (by omega)).mono ?_
    rintro e v2 ⟨f2, rfl, hx2, hD2', hG2⟩
    have hD2 := Lib.hid hD2'
    have lG2 := hD2'.lt
    have zG2 := hG2.size
    (try simp at zG2)
    have hA2 : Blk v2 (w.heap.size) 33 #[.int .i64 0, .int .i64 0, .int .i64 0] := Blk.grown (by (repeat (first | with_reducible assumption | (with_reducible apply Blk.new_at; (first | rfl | (simp; done))) | with_reducible apply Blk.store3 | with_reducible apply Blk.store4 | (with_reducible apply Blk.farp; (first | omega | (simp <;> omega))) | with_reducible apply Blk.allocp | with_reducible apply Blk.drew | with_reducible apply Blk.drewN))) hG2 (by simp; omega)
    have cA2 := hA2.cell; have fA2 := hA2.frozen; have lA2 := hA2.lt; have mA2 := Nat.ne_of_gt lA2; have nA2 := Nat.ne_of_lt lA2
    clear hD2' hG2
    go_wp2
    exact bodyPost_ret (v := .agg #[.int .i64 f2.a, .int .i64 f2.b, .int .i64 f2.c]) (by simp [results, Tryz.results76, go_sem, *]) rfl (hfin.out _ _ _ _ (Drw.more (n := n + 2 + 32) (by repeat (first | with_reducible assumption | (with_reducible apply Hid.out; assumption) | with_reducible apply Drw.drewN | with_reducible apply Drw.drew | with_reducible apply Drw.alloc | (with_reducible refine Drw.setp ?_ ?_ ?_ ?_; (first | omega | (simp <;> omega)); (first | omega | (simp <;> omega)); (first | omega | (simp <;> omega))))) (by omega)))
  | false =>
    go_wp2_with fail
    refine (goodDisc_d (by repeat (first | with_reducible assumption | (with_reducible apply Hid.out; assumption) | with_reducible apply Drw.drewN | with_reducible apply Drw.drew | with_reducible apply Drw.alloc | (with_reducible refine Drw.setp ?_ ?_ ?_ ?_; (first | omega | (simp <;> omega)); (first | omega | (simp <;> omega)); (first | omega | (simp <;> omega))))) hB (by omega)).mono ?_
    rintro e v2 ⟨d2, rfl, hx2, hD2', hG2⟩
    have hD2 := Lib.hid hD2'
    have lG2 := hD2'.lt
    have zG2 := hG2.size
    (try simp at zG2)
    have hA2 : Blk v2 (w.heap.size) 33 #[.int .i64 0, .int .i64 0, .int .i64 0] := Blk.grown (by (repeat (first | with_reducible assumption | (with_reducible apply Blk.new_at; (first | rfl | (simp; done))) | with_reducible apply Blk.store3 | with_reducible apply Blk.store4 | (with_reducible apply Blk.farp; (first | omega | (simp <;> omega))) | with_reducible apply Blk.allocp | with_reducible apply Blk.drew | with_reducible apply Blk.drewN))) hG2 (by simp; omega)
    have cA2 := hA2.cell; have fA2 := hA2.frozen; have lA2 := hA2.lt; have mA2 := Nat.ne_of_gt lA2; have nA2 := Nat.ne_of_lt lA2
    clear hD2' hG2
    have HX2 := Lib.hid hx2
    clear hx2
    go_wp2_with fail
    refine (reduced_d (by repeat (first | with_reducible assumption | (with_reducible apply Hid.out; assumption) | with_reducible apply Drw.drewN | with_reducible apply Drw.drew | with_reducible apply Drw.alloc | (with_reducible refine Drw.setp ?_ ?_ ?_ ?_; (first | omega | (simp <;> omega)); (first | omega | (simp <;> omega)); (first | omega | (simp <;> omega))))) hB (by omega) d2 HX2.out).mono ?_
    rintro e v3 ⟨f3, rfl, hx3, hD3', hG3⟩
    have hD3 := Lib.hid hD3'
    have lG3 := hD3'.lt
    have zG3 := hG3.size
    (try simp at zG3)
    have hA3 : Blk v3 (w.heap.size) 33 #[.int .i64 0, .int .i64 0, .int .i64 0] := Blk.grown (by (repeat (first | with_reducible assumption | (with_reducible apply Blk.new_at; (first | rfl | (simp; done))) | with_reducible apply Blk.store3 | with_reducible apply Blk.store4 | (with_reducible apply Blk.farp; (first | omega | (simp <;> omega))) | with_reducible apply Blk.allocp | with_reducible apply Blk.drew | with_reducible apply Blk.drewN))) hG3 (by simp; omega)
    have cA3 := hA3.cell; have fA3 := hA3.frozen; have lA3 := hA3.lt; have mA3 := Nat.ne_of_gt lA3; have nA3 := Nat.ne_of_lt lA3
    clear hD3' hG3
    clear hx3
    go_wp2_with fail
    refine (one_d (by repeat (first | with_reducible assumption | (with_reducible apply Hid.out; assumption) | with_reducible apply Drw.drewN | with_reducible apply Drw.drew | with_reducible apply Drw.alloc | (with_reducible refine Drw.setp ?_ ?_ ?_ ?_; (first | omega | (simp <;> omega)); (first | omega | (simp <;> omega)); (first | omega | (simp <;> omega))))) hB 2 (by omega) (by omega)).mono ?_
    rintro e v4 ⟨x4, rfl, hx4, hD4', hG4⟩
    have hD4 := Lib.hid hD4'
    have lG4 := hD4'.lt
    have zG4 := hG4.size
    (try simp at zG4)
    have hA4 : Blk v4 (w.heap.size) 33 #[.int .i64 0, .int .i64 0, .int .i64 0] := Blk.grown (by (repeat (first | with_reducible assumption | (with_reducible apply Blk.new_at; (first | rfl | (simp; done))) | with_reducible apply Blk.store3 | with_reducible apply Blk.store4 | (with_reducible apply Blk.farp; (first | omega | (simp <;> omega))) | with_reducible apply Blk.allocp | with_reducible apply Blk.drew | with_reducible apply Blk.drewN))) hG4 (by simp; omega)
    have cA4 := hA4.cell; have fA4 := hA4.frozen; have lA4 := hA4.lt; have mA4 := Nat.ne_of_gt lA4; have nA4 := Nat.ne_of_lt lA4
    have hP4 : Blk v4 (v3.heap.size) 33 #[.int .i64 f3.a, .int .i64 f3.b, .int .i64 f3.c] := Blk.grown (by (repeat (first | with_reducible assumption | (with_reducible apply Blk.new_at; (first | rfl | (simp; done))) | with_reducible apply Blk.store3 | with_reducible apply Blk.store4 | (with_reducible apply Blk.farp; (first | omega | (simp <;> omega))) | with_reducible apply Blk.allocp | with_reducible apply Blk.drew | with_reducible apply Blk.drewN))) hG4 (by simp; omega)
    have cP4 := hP4.cell; have fP4 := hP4.frozen; have lP4 := hP4.lt; have mP4 := Nat.ne_of_gt lP4; have nP4 := Nat.ne_of_lt lP4
    clear hD4' hG4
    cases x4 with
    | true =>
      go_wp2_with fail
      refine (moved_d (by repeat (first | with_reducible assumption | (with_reducible apply Hid.out; assumption) | with_reducible apply Drw.drewN | with_reducible apply Drw.drew | with_reducible apply Drw.alloc | (with_reducible refine Drw.setp ?_ ?_ ?_ ?_; (first | omega | (simp <;> omega)); (first | omega | (simp <;> omega)); (first | omega | (simp <;> omega))))) hB (by omega) f3).mono ?_
      rintro e v5 ⟨f5, rfl, hx5, hD5', hG5⟩
      have hD5 := Lib.hid hD5'
      have lG5 := hD5'.lt
      have zG5 := hG5.size
      (try simp at zG5)
      have hA5 : Blk v5 (w.heap.size) 33 #[.int .i64 0, .int .i64 0, .int .i64 0] := Blk.grown (by (repeat (first | with_reducible assumption | (with_reducible apply Blk.new_at; (first | rfl | (simp; done))) | with_reducible apply Blk.store3 | with_reducible apply Blk.store4 | (with_reducible apply Blk.farp; (first | omega | (simp <;> omega))) | with_reducible apply Blk.allocp | with_reducible apply Blk.drew | with_reducible apply Blk.drewN))) hG5 (by simp; omega)
      have cA5 := hA5.cell; have fA5 := hA5.frozen; have lA5 := hA5.lt; have mA5 := Nat.ne_of_gt lA5; have nA5 := Nat.ne_of_lt lA5
      clear hD5' hG5
      go_wp2
      exact bodyPost_ret (v := .agg #[.int .i64 f5.a, .int .i64 f5.b, .int .i64 f5.c]) (by simp [results, Tryz.results76, go_sem, *]) rfl (hfin.out _ _ _ _ (Drw.more (n := n + 2 + 4 + 2 + 2 + 22) (by repeat (first | with_reducible assumption | (with_reducible apply Hid.out; assumption) | with_reducible apply Drw.drewN | with_reducible apply Drw.drew | with_reducible apply Drw.alloc | (with_reducible refine Drw.setp ?_ ?_ ?_ ?_; (first | omega | (simp <;> omega)); (first | omega | (simp <;> omega)); (first | omega | (simp <;> omega))))) (by omega)))
    | false =>
      go_wp2
      exact bodyPost_ret (v := .agg #[.int .i64 f3.a, .int .i64 f3.b, .int .i64 f3.c]) (by simp [results, Tryz.results76, go_sem, *]) rfl (hfin.out _ _ _ _ (Drw.more (n := n + 2 + 4 + 2 + 2) (by repeat (first | with_reducible assumption | (with_reducible apply Hid.out; assumption) | with_reducible apply Drw.drewN | with_reducible apply Drw.drew | with_reducible apply Drw.alloc | (with_reducible refine Drw.setp ?_ ?_ ?_ ?_; (first | omega | (simp <;> omega)); (first | omega | (simp <;> omega)); (first | omega | (simp <;> omega))))) (by omega)))
end
end
end Go.Proofs.YtlcegkafagdcjaaGreatDoor
