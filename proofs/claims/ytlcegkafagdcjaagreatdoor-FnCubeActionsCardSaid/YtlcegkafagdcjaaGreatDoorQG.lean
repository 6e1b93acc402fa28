/- Contracts: the cubes of the program (written by gen_QG.py). -/
import Derived.Test.YtlcegkafagdcjaaGreatDoorRC
import Derived.Test.YtlcegkafagdcjaaGreatDoorCA
import Derived.Deep.RegionHeld3
namespace Go.Proofs.YtlcegkafagdcjaaGreatDoor
open Go.RowKit

def cuL (k : Cu) : List Int := [k.a, k.b, k.c, k.d, k.e, k.f, k.g, k.h]
def cuN (k : Cu) (i : Nat) : Int := (cuL k).getD i 0
/-- Whether all entries are within their bounds. -/
def cuB (k : Cu) : Bool := (cuL k).all fun x => decide (-500 ≤ x) && decide (x ≤ 500)
theorem cuB_iff {k : Cu} : cuB k = true ↔ ∀ i < 8, -500 ≤ cuN k i ∧ cuN k i ≤ 500 := by
  unfold cuB
  rw [List.all_eq_true]
  constructor
  · intro h i hi
    have := h (cuN k i) (by unfold cuN cuL; rcases (show i = 0 ∨ i = 1 ∨ i = 2 ∨ i = 3 ∨ i = 4 ∨ i = 5 ∨ i = 6 ∨ i = 7 by omega) with rfl | rfl | rfl | rfl | rfl | rfl | rfl | rfl <;> simp)
    simpa using this
  · intro h x hx
    unfold cuL at hx
    simp only [List.mem_cons, List.not_mem_nil, or_false] at hx
    rcases hx with rfl | rfl | rfl | rfl | rfl | rfl | rfl | rfl
    · rw [Bool.and_eq_true, decide_eq_true_eq, decide_eq_true_eq]; exact h 0 (by decide)
    · rw [Bool.and_eq_true, decide_eq_true_eq, decide_eq_true_eq]; exact h 1 (by decide)
    · rw [Bool.and_eq_true, decide_eq_true_eq, decide_eq_true_eq]; exact h 2 (by decide)
    · rw [Bool.and_eq_true, decide_eq_true_eq, decide_eq_true_eq]; exact h 3 (by decide)
    · rw [Bool.and_eq_true, decide_eq_true_eq, decide_eq_true_eq]; exact h 4 (by decide)
    · rw [Bool.and_eq_true, decide_eq_true_eq, decide_eq_true_eq]; exact h 5 (by decide)
    · rw [Bool.and_eq_true, decide_eq_true_eq, decide_eq_true_eq]; exact h 6 (by decide)
    · rw [Bool.and_eq_true, decide_eq_true_eq, decide_eq_true_eq]; exact h 7 (by decide)
structure CuV (k : Cu) : Prop where
  a1 : -500 ≤ k.a
  a2 : k.a ≤ 500
  b1 : -500 ≤ k.b
  b2 : k.b ≤ 500
  c1 : -500 ≤ k.c
  c2 : k.c ≤ 500
  d1 : -500 ≤ k.d
  d2 : k.d ≤ 500
  e1 : -500 ≤ k.e
  e2 : k.e ≤ 500
  f1 : -500 ≤ k.f
  f2 : k.f ≤ 500
  g1 : -500 ≤ k.g
  g2 : k.g ≤ 500
  h1 : -500 ≤ k.h
  h2 : k.h ≤ 500
theorem cuB_v {k : Cu} (h : cuB k = true) : CuV k := by
  have h := cuB_iff.1 h
  exact ⟨(h 0 (by decide)).1, (h 0 (by decide)).2, (h 1 (by decide)).1, (h 1 (by decide)).2, (h 2 (by decide)).1, (h 2 (by decide)).2, (h 3 (by decide)).1, (h 3 (by decide)).2, (h 4 (by decide)).1, (h 4 (by decide)).2, (h 5 (by decide)).1, (h 5 (by decide)).2, (h 6 (by decide)).1, (h 6 (by decide)).2, (h 7 (by decide)).1, (h 7 (by decide)).2⟩
set_option maxRecDepth 100000 in
set_option maxHeartbeats 6400000 in
theorem entries_any (k : Cu) (w : World) : Calls Tryz.prog 25 #[.agg #[.int .i64 k.a, .int .i64 k.b, .int .i64 k.c, .int .i64 k.d, .int .i64 k.e, .int .i64 k.f, .int .i64 k.g, .int .i64 k.h]] w fun e w' => e = .returned (.agg #[.int .i64 k.a, .int .i64 k.b, .int .i64 k.c, .int .i64 k.d, .int .i64 k.e, .int .i64 k.f, .int .i64 k.g, .int .i64 k.h]) ∧ Below w.heap.size w w' := by
  go_enter Tryz.func25, Tryz.ntmps25
  go_wp2
  exact bodyPost_ret (v := .agg #[.int .i64 k.a, .int .i64 k.b, .int .i64 k.c, .int .i64 k.d, .int .i64 k.e, .int .i64 k.f, .int .i64 k.g, .int .i64 k.h]) (by simp [results, Tryz.results25, go_sem, *]) rfl ⟨rfl, (by repeat (first | with_reducible exact Below.refl _ _ | with_reducible assumption | with_reducible apply Below.drew | with_reducible apply below_drewN | (with_reducible apply below_setp; (first | omega | (simp <;> omega))) | (with_reducible apply below_allocp; (first | omega | (simp <;> omega))) | (with_reducible refine below_viap (by assumption) ?_ ?_; (first | omega | (simp <;> omega)))))⟩
set_option maxRecDepth 100000 in
set_option maxHeartbeats 6400000 in
theorem ecube_yes (k : Cu) (w : World) (h : cuB k = true) : Calls Tryz.prog 27 #[.agg #[.int .i64 k.a, .int .i64 k.b, .int .i64 k.c, .int .i64 k.d, .int .i64 k.e, .int .i64 k.f, .int .i64 k.g, .int .i64 k.h]] w fun e w' => e = .returned (.tuple #[.agg #[.int .i64 k.a, .int .i64 k.b, .int .i64 k.c, .int .i64 k.d, .int .i64 k.e, .int .i64 k.f, .int .i64 k.g, .int .i64 k.h], .bool true]) ∧ Below w.heap.size w w' := by
  have hx : ∀ i (_ : i < 8) (w : World), (Instr.index 60 (.agg #[.int .i64 k.a, .int .i64 k.b, .int .i64 k.c, .int .i64 k.d, .int .i64 k.e, .int .i64 k.f, .int .i64 k.g, .int .i64 k.h]) (.int .i64 (i : Nat))).run Tryz.prog w = .ok (.int .i64 (cuN k i)) w := by
    intro i hi w
    rcases (show i = 0 ∨ i = 1 ∨ i = 2 ∨ i = 3 ∨ i = 4 ∨ i = 5 ∨ i = 6 ∨ i = 7 by omega) with rfl | rfl | rfl | rfl | rfl | rfl | rfl | rfl <;> kernel_rfl
  have HX := Lib.hid hx
  have HB := Lib.hid h
  clear h hx
  go_enter Tryz.func27, Tryz.ntmps27
  go_wp2
  go_loopw [7] (fun v7 wr => ∃ i : Nat, v7 = .int .i64 i ∧ i ≤ 8 ∧ Hid (∀ j < i, -500 ≤ cuN k j ∧ cuN k j ≤ 500) ∧ Blk wr w.heap.size 60 #[.int .i64 k.a, .int .i64 k.b, .int .i64 k.c, .int .i64 k.d, .int .i64 k.e, .int .i64 k.f, .int .i64 k.g, .int .i64 k.h] ∧ Blk wr (w.heap.size + 1) 25 #[.int .i64 0, .int .i64 0, .int .i64 0, .int .i64 0, .int .i64 0, .int .i64 0, .int .i64 0, .int .i64 0] ∧ Below w.heap.size w wr) (fun v7 _ => 8 - (intOf v7).toNat)
  case atStart => exact ⟨0, rfl, by omega, Lib.hid (fun j hj => by omega), by (repeat (first | with_reducible assumption | (with_reducible apply Blk.new_at; (first | rfl | (simp; done))) | with_reducible apply Blk.store3 | with_reducible apply Blk.store4 | (with_reducible apply Blk.farp; (first | omega | (simp <;> omega))) | with_reducible apply Blk.allocp | with_reducible apply Blk.drew | with_reducible apply Blk.drewN)), by (repeat (first | with_reducible assumption | (with_reducible apply Blk.new_at; (first | rfl | (simp; done))) | with_reducible apply Blk.store3 | with_reducible apply Blk.store4 | (with_reducible apply Blk.farp; (first | omega | (simp <;> omega))) | with_reducible apply Blk.allocp | with_reducible apply Blk.drew | with_reducible apply Blk.drewN)), (by repeat (first | with_reducible exact Below.refl _ _ | with_reducible assumption | with_reducible apply Below.drew | with_reducible apply below_drewN | (with_reducible apply below_setp; (first | omega | (simp <;> omega))) | (with_reducible apply below_allocp; (first | omega | (simp <;> omega))) | (with_reducible refine below_viap (by assumption) ?_ ?_; (first | omega | (simp <;> omega)))))⟩
  case round =>
    obtain ⟨i, rfl, hi, HI, hE, hR, hb⟩ := hrel
    have cE := hE.cell; have fE := hE.frozen; have lE := hE.lt; have cR := hR.cell; have fR := hR.frozen; have lR := hR.lt
    by_cases hlt : i < 8
    · have hxi := HX.out i hlt
      obtain ⟨x, hxe⟩ : ∃ x, cuN k i = x := ⟨_, rfl⟩
      have HE := Lib.hid hxe
      rw [hxe] at hxi
      clear hxe
      have kI : (i : Int) < 8 := by omega
      by_cases hb1 : x < -500
      · have := HB.out
        rw [cuB_iff] at this
        have := this i hlt
        rw [HE.out] at this
        omega
      · by_cases hb2 : 500 < x
        · have := HB.out
          rw [cuB_iff] at this
          have := this i hlt
          rw [HE.out] at this
          omega
        · have hn := Lib.hid (show ∀ j < i + 1, -500 ≤ cuN k j ∧ cuN k j ≤ 500 by
            intro j hj
            by_cases e : j = i
            · subst e; rw [HE.out]; omega
            · exact HI.out j (by omega))
          go_wp2
          go_roundw
          case rel => exact ⟨i + 1, by go_num, by omega, hn, by (repeat (first | with_reducible assumption | (with_reducible apply Blk.new_at; (first | rfl | (simp; done))) | with_reducible apply Blk.store3 | with_reducible apply Blk.store4 | (with_reducible apply Blk.farp; (first | omega | (simp <;> omega))) | with_reducible apply Blk.allocp | with_reducible apply Blk.drew | with_reducible apply Blk.drewN)), by (repeat (first | with_reducible assumption | (with_reducible apply Blk.new_at; (first | rfl | (simp; done))) | with_reducible apply Blk.store3 | with_reducible apply Blk.store4 | (with_reducible apply Blk.farp; (first | omega | (simp <;> omega))) | with_reducible apply Blk.allocp | with_reducible apply Blk.drew | with_reducible apply Blk.drewN)), (by repeat (first | with_reducible exact Below.refl _ _ | with_reducible assumption | with_reducible apply Below.drew | with_reducible apply below_drewN | (with_reducible apply below_setp; (first | omega | (simp <;> omega))) | (with_reducible apply below_allocp; (first | omega | (simp <;> omega))) | (with_reducible refine below_viap (by assumption) ?_ ?_; (first | omega | (simp <;> omega)))))⟩
          case measure => (first | (simp [intOf]; done) | (simp [intOf]; omega))
    · obtain rfl : i = 8 := by omega
      clear HX HB HI
      go_wp2
      exact bodyPost_ret (v := .tuple #[.agg #[.int .i64 k.a, .int .i64 k.b, .int .i64 k.c, .int .i64 k.d, .int .i64 k.e, .int .i64 k.f, .int .i64 k.g, .int .i64 k.h], .bool true]) (by simp [results, Tryz.results27, go_sem, *]) rfl ⟨rfl, (by repeat (first | with_reducible exact Below.refl _ _ | with_reducible assumption | with_reducible apply Below.drew | with_reducible apply below_drewN | (with_reducible apply below_setp; (first | omega | (simp <;> omega))) | (with_reducible apply below_allocp; (first | omega | (simp <;> omega))) | (with_reducible refine below_viap (by assumption) ?_ ?_; (first | omega | (simp <;> omega)))))⟩
set_option maxRecDepth 100000 in
set_option maxHeartbeats 6400000 in
theorem ecube_no (k : Cu) (w : World) (h : cuB k = false) : Calls Tryz.prog 27 #[.agg #[.int .i64 k.a, .int .i64 k.b, .int .i64 k.c, .int .i64 k.d, .int .i64 k.e, .int .i64 k.f, .int .i64 k.g, .int .i64 k.h]] w fun e w' => e = .returned (.tuple #[.agg #[.int .i64 0, .int .i64 0, .int .i64 0, .int .i64 0, .int .i64 0, .int .i64 0, .int .i64 0, .int .i64 0], .bool false]) ∧ Below w.heap.size w w' := by
  have hx : ∀ i (_ : i < 8) (w : World), (Instr.index 60 (.agg #[.int .i64 k.a, .int .i64 k.b, .int .i64 k.c, .int .i64 k.d, .int .i64 k.e, .int .i64 k.f, .int .i64 k.g, .int .i64 k.h]) (.int .i64 (i : Nat))).run Tryz.prog w = .ok (.int .i64 (cuN k i)) w := by
    intro i hi w
    rcases (show i = 0 ∨ i = 1 ∨ i = 2 ∨ i = 3 ∨ i = 4 ∨ i = 5 ∨ i = 6 ∨ i = 7 by omega) with rfl | rfl | rfl | rfl | rfl | rfl | rfl | rfl <;> kernel_rfl
  have HX := Lib.hid hx
  have HB := Lib.hid h
  clear h hx
  go_enter Tryz.func27, Tryz.ntmps27
  go_wp2
  go_loopw [7] (fun v7 wr => ∃ i : Nat, v7 = .int .i64 i ∧ i ≤ 8 ∧ Hid (∀ j < i, -500 ≤ cuN k j ∧ cuN k j ≤ 500) ∧ Blk wr w.heap.size 60 #[.int .i64 k.a, .int .i64 k.b, .int .i64 k.c, .int .i64 k.d, .int .i64 k.e, .int .i64 k.f, .int .i64 k.g, .int .i64 k.h] ∧ Blk wr (w.heap.size + 1) 25 #[.int .i64 0, .int .i64 0, .int .i64 0, .int .i64 0, .int .i64 0, .int .i64 0, .int .i64 0, .int .i64 0] ∧ Below w.heap.size w wr) (fun v7 _ => 8 - (intOf v7).toNat)
  case atStart => exact ⟨0, rfl, by omega, Lib.hid (fun j hj => by omega), by (repeat (first | with_reducible assumption | (with_reducible apply Blk.new_at; (first | rfl | (simp; done))) | with_reducible apply Blk.store3 | with_reducible apply Blk.store4 | (with_reducible apply Blk.farp; (first | omega | (simp <;> omega))) | with_reducible apply Blk.allocp | with_reducible apply Blk.drew | with_reducible apply Blk.drewN)), by (repeat (first | with_reducible assumption | (with_reducible apply Blk.new_at; (first | rfl | (simp; done))) | with_reducible apply Blk.store3 | with_reducible apply Blk.store4 | (with_reducible apply Blk.farp; (first | omega | (simp <;> omega))) | with_reducible apply Blk.allocp | with_reducible apply Blk.drew | with_reducible apply Blk.drewN)), (by repeat (first | with_reducible exact Below.refl _ _ | with_reducible assumption | with_reducible apply Below.drew | with_reducible apply below_drewN | (with_reducible apply below_setp; (first | omega | (simp <;> omega))) | (with_reducible apply below_allocp; (first | omega | (simp <;> omega))) | (with_reducible refine below_viap (by assumption) ?_ ?_; (first | omega | (simp <;> omega)))))⟩
  case round =>
    obtain ⟨i, rfl, hi, HI, hE, hR, hb⟩ := hrel
    have cE := hE.cell; have fE := hE.frozen; have lE := hE.lt; have cR := hR.cell; have fR := hR.frozen; have lR := hR.lt
    by_cases hlt : i < 8
    · have hxi := HX.out i hlt
      obtain ⟨x, hxe⟩ : ∃ x, cuN k i = x := ⟨_, rfl⟩
      have HE := Lib.hid hxe
      rw [hxe] at hxi
      clear hxe
      have kI : (i : Int) < 8 := by omega
      by_cases hb1 : x < -500
      · go_wp2
        exact bodyPost_ret (v := .tuple #[.agg #[.int .i64 0, .int .i64 0, .int .i64 0, .int .i64 0, .int .i64 0, .int .i64 0, .int .i64 0, .int .i64 0], .bool false]) (by simp [results, Tryz.results27, go_sem, *]) rfl ⟨rfl, (by repeat (first | with_reducible exact Below.refl _ _ | with_reducible assumption | with_reducible apply Below.drew | with_reducible apply below_drewN | (with_reducible apply below_setp; (first | omega | (simp <;> omega))) | (with_reducible apply below_allocp; (first | omega | (simp <;> omega))) | (with_reducible refine below_viap (by assumption) ?_ ?_; (first | omega | (simp <;> omega)))))⟩
      · by_cases hb2 : 500 < x
        · go_wp2
          exact bodyPost_ret (v := .tuple #[.agg #[.int .i64 0, .int .i64 0, .int .i64 0, .int .i64 0, .int .i64 0, .int .i64 0, .int .i64 0, .int .i64 0], .bool false]) (by simp [results, Tryz.results27, go_sem, *]) rfl ⟨rfl, (by repeat (first | with_reducible exact Below.refl _ _ | with_reducible assumption | with_reducible apply Below.drew | with_reducible apply below_drewN | (with_reducible apply below_setp; (first | omega | (simp <;> omega))) | (with_reducible apply below_allocp; (first | omega | (simp <;> omega))) | (with_reducible refine below_viap (by assumption) ?_ ?_; (first | omega | (simp <;> omega)))))⟩
        · have hn := Lib.hid (show ∀ j < i + 1, -500 ≤ cuN k j ∧ cuN k j ≤ 500 by
            intro j hj
            by_cases e : j = i
            · subst e; rw [HE.out]; omega
            · exact HI.out j (by omega))
          go_wp2
          go_roundw
          case rel => exact ⟨i + 1, by go_num, by omega, hn, by (repeat (first | with_reducible assumption | (with_reducible apply Blk.new_at; (first | rfl | (simp; done))) | with_reducible apply Blk.store3 | with_reducible apply Blk.store4 | (with_reducible apply Blk.farp; (first | omega | (simp <;> omega))) | with_reducible apply Blk.allocp | with_reducible apply Blk.drew | with_reducible apply Blk.drewN)), by (repeat (first | with_reducible assumption | (with_reducible apply Blk.new_at; (first | rfl | (simp; done))) | with_reducible apply Blk.store3 | with_reducible apply Blk.store4 | (with_reducible apply Blk.farp; (first | omega | (simp <;> omega))) | with_reducible apply Blk.allocp | with_reducible apply Blk.drew | with_reducible apply Blk.drewN)), (by repeat (first | with_reducible exact Below.refl _ _ | with_reducible assumption | with_reducible apply Below.drew | with_reducible apply below_drewN | (with_reducible apply below_setp; (first | omega | (simp <;> omega))) | (with_reducible apply below_allocp; (first | omega | (simp <;> omega))) | (with_reducible refine below_viap (by assumption) ?_ ?_; (first | omega | (simp <;> omega)))))⟩
          case measure => (first | (simp [intOf]; done) | (simp [intOf]; omega))
    · obtain rfl : i = 8 := by omega
      have := cuB_iff.2 HI.out
      rw [HB.out] at this
      cases this
set_option maxRecDepth 100000 in
set_option maxHeartbeats 6400000 in
theorem isCube_yes (k : Cu) (w : World) (h : cuB k = true) : Calls Tryz.prog 23 #[.agg #[.int .i64 k.a, .int .i64 k.b, .int .i64 k.c, .int .i64 k.d, .int .i64 k.e, .int .i64 k.f, .int .i64 k.g, .int .i64 k.h]] w fun e w' => e = .returned (.bool true) ∧ Below w.heap.size w w' := by
  have hE := Lib.hid (fun w => entries_any k w)
  have hC := Lib.hid (fun w => ecube_yes k w h)
  clear h
  go_enter Tryz.func23, Tryz.ntmps23
  go_wp2_with (first | (go_at_call 25; (with_reducible refine (hE.out _).mono ?_); rintro e v1 ⟨rfl, hB1⟩; have hZ1 := hB1.size; (try simp at hZ1); (try have zl1 : w.heap.size < v1.heap.size := by omega); (try have ze1 : w.heap.size ≤ v1.heap.size := by omega); (try have zn1 : ¬ w.heap.size = v1.heap.size := by omega); (try have zm1 : ¬ v1.heap.size = w.heap.size := by omega); have hX1 : Blk v1 (w.heap.size) 25 #[.int .i64 k.a, .int .i64 k.b, .int .i64 k.c, .int .i64 k.d, .int .i64 k.e, .int .i64 k.f, .int .i64 k.g, .int .i64 k.h] := Blk.call (by (repeat (first | with_reducible assumption | (with_reducible apply Blk.new_at; (first | rfl | (simp; done))) | with_reducible apply Blk.store3 | with_reducible apply Blk.store4 | (with_reducible apply Blk.farp; (first | omega | (simp <;> omega))) | with_reducible apply Blk.allocp | with_reducible apply Blk.drew | with_reducible apply Blk.drewN))) hB1; have cX1 := hX1.cell; have fX1 := hX1.frozen; have lX1 := hX1.lt; have mX1 := Nat.ne_of_gt lX1; have nX1 := Nat.ne_of_lt lX1) | (go_at_call 27; (with_reducible refine (hC.out _).mono ?_); rintro e v2 ⟨rfl, hB2⟩; have hZ2 := hB2.size; (try simp at hZ2); (try have zl2 : w.heap.size < v2.heap.size := by omega); (try have ze2 : w.heap.size ≤ v2.heap.size := by omega); (try have zn2 : ¬ w.heap.size = v2.heap.size := by omega); (try have zm2 : ¬ v2.heap.size = w.heap.size := by omega); have hX2 : Blk v2 (w.heap.size) 25 #[.int .i64 k.a, .int .i64 k.b, .int .i64 k.c, .int .i64 k.d, .int .i64 k.e, .int .i64 k.f, .int .i64 k.g, .int .i64 k.h] := Blk.call (by (repeat (first | with_reducible assumption | (with_reducible apply Blk.new_at; (first | rfl | (simp; done))) | with_reducible apply Blk.store3 | with_reducible apply Blk.store4 | (with_reducible apply Blk.farp; (first | omega | (simp <;> omega))) | with_reducible apply Blk.allocp | with_reducible apply Blk.drew | with_reducible apply Blk.drewN))) hB2; have cX2 := hX2.cell; have fX2 := hX2.frozen; have lX2 := hX2.lt; have mX2 := Nat.ne_of_gt lX2; have nX2 := Nat.ne_of_lt lX2))
  go_ret
  exact ⟨rfl, (by repeat (first | with_reducible exact Below.refl _ _ | with_reducible assumption | with_reducible apply Below.drew | with_reducible apply below_drewN | (with_reducible apply below_setp; (first | omega | (simp <;> omega))) | (with_reducible apply below_allocp; (first | omega | (simp <;> omega))) | (with_reducible refine below_viap (by assumption) ?_ ?_; (first | omega | (simp <;> omega)))))⟩
set_option maxRecDepth 100000 in
set_option maxHeartbeats 6400000 in
theorem isCube_no (k : Cu) (w : World) (h : cuB k = false) : Calls Tryz.prog 23 #[.agg #[.int .i64 k.a, .int .i64 k.b, .int .i64 k.c, .int .i64 k.d, .int .i64 k.e, .int .i64 k.f, .int .i64 k.g, .int .i64 k.h]] w fun e w' => e = .returned (.bool false) ∧ Below w.heap.size w w' := by
  have hE := Lib.hid (fun w => entries_any k w)
  have hC := Lib.hid (fun w => ecube_no k w h)
  clear h
  go_enter Tryz.func23, Tryz.ntmps23
  go_wp2_with (first | (go_at_call 25; (with_reducible refine (hE.out _).mono ?_); rintro e v1 ⟨rfl, hB1⟩; have hZ1 := hB1.size; (try simp at hZ1); (try have zl1 : w.heap.size < v1.heap.size := by omega); (try have ze1 : w.heap.size ≤ v1.heap.size := by omega); (try have zn1 : ¬ w.heap.size = v1.heap.size := by omega); (try have zm1 : ¬ v1.heap.size = w.heap.size := by omega); have hX1 : Blk v1 (w.heap.size) 25 #[.int .i64 k.a, .int .i64 k.b, .int .i64 k.c, .int .i64 k.d, .int .i64 k.e, .int .i64 k.f, .int .i64 k.g, .int .i64 k.h] := Blk.call (by (repeat (first | with_reducible assumption | (with_reducible apply Blk.new_at; (first | rfl | (simp; done))) | with_reducible apply Blk.store3 | with_reducible apply Blk.store4 | (with_reducible apply Blk.farp; (first | omega | (simp <;> omega))) | with_reducible apply Blk.allocp | with_reducible apply Blk.drew | with_reducible apply Blk.drewN))) hB1; have cX1 := hX1.cell; have fX1 := hX1.frozen; have lX1 := hX1.lt; have mX1 := Nat.ne_of_gt lX1; have nX1 := Nat.ne_of_lt lX1) | (go_at_call 27; (with_reducible refine (hC.out _).mono ?_); rintro e v2 ⟨rfl, hB2⟩; have hZ2 := hB2.size; (try simp at hZ2); (try have zl2 : w.heap.size < v2.heap.size := by omega); (try have ze2 : w.heap.size ≤ v2.heap.size := by omega); (try have zn2 : ¬ w.heap.size = v2.heap.size := by omega); (try have zm2 : ¬ v2.heap.size = w.heap.size := by omega); have hX2 : Blk v2 (w.heap.size) 25 #[.int .i64 k.a, .int .i64 k.b, .int .i64 k.c, .int .i64 k.d, .int .i64 k.e, .int .i64 k.f, .int .i64 k.g, .int .i64 k.h] := Blk.call (by (repeat (first | with_reducible assumption | (with_reducible apply Blk.new_at; (first | rfl | (simp; done))) | with_reducible apply Blk.store3 | with_reducible apply Blk.store4 | (with_reducible apply Blk.farp; (first | omega | (simp <;> omega))) | with_reducible apply Blk.allocp | with_reducible apply Blk.drew | with_reducible apply Blk.drewN))) hB2; have cX2 := hX2.cell; have fX2 := hX2.frozen; have lX2 := hX2.lt; have mX2 := Nat.ne_of_gt lX2; have nX2 := Nat.ne_of_lt lX2))
  go_ret
  exact ⟨rfl, (by repeat (first | with_reducible exact Below.refl _ _ | with_reducible assumption | with_reducible apply Below.drew | with_reducible apply below_drewN | (with_reducible apply below_setp; (first | omega | (simp <;> omega))) | (with_reducible apply below_allocp; (first | omega | (simp <;> omega))) | (with_reducible refine below_viap (by assumption) ?_ ?_; (first | omega | (simp <;> omega)))))⟩
set_option maxRecDepth 100000 in
set_option maxHeartbeats 6400000 in
theorem cut1_any (w : World) : Calls Tryz.prog 61 #[.int .i64 1] w fun e w' => e = .returned (.agg #[.int .i64 0, .int .i64 1, .int .i64 2, .int .i64 3, .int .i64 4, .int .i64 5, .int .i64 6, .int .i64 7]) ∧ Below w.heap.size w w' := by
  go_enter Tryz.func61, Tryz.ntmps61
  go_wp2
  exact bodyPost_ret (v := .agg #[.int .i64 0, .int .i64 1, .int .i64 2, .int .i64 3, .int .i64 4, .int .i64 5, .int .i64 6, .int .i64 7]) (by simp [results, Tryz.results61, go_sem, *]) rfl ⟨rfl, (by repeat (first | with_reducible exact Below.refl _ _ | with_reducible assumption | with_reducible apply Below.drew | with_reducible apply below_drewN | (with_reducible apply below_setp; (first | omega | (simp <;> omega))) | (with_reducible apply below_allocp; (first | omega | (simp <;> omega))) | (with_reducible refine below_viap (by assumption) ?_ ?_; (first | omega | (simp <;> omega)))))⟩
set_option maxRecDepth 100000 in
set_option maxHeartbeats 6400000 in
theorem cut2_any (w : World) : Calls Tryz.prog 61 #[.int .i64 2] w fun e w' => e = .returned (.agg #[.int .i64 0, .int .i64 2, .int .i64 4, .int .i64 6, .int .i64 1, .int .i64 3, .int .i64 5, .int .i64 7]) ∧ Below w.heap.size w w' := by
  go_enter Tryz.func61, Tryz.ntmps61
  go_wp2
  exact bodyPost_ret (v := .agg #[.int .i64 0, .int .i64 2, .int .i64 4, .int .i64 6, .int .i64 1, .int .i64 3, .int .i64 5, .int .i64 7]) (by simp [results, Tryz.results61, go_sem, *]) rfl ⟨rfl, (by repeat (first | with_reducible exact Below.refl _ _ | with_reducible assumption | with_reducible apply Below.drew | with_reducible apply below_drewN | (with_reducible apply below_setp; (first | omega | (simp <;> omega))) | (with_reducible apply below_allocp; (first | omega | (simp <;> omega))) | (with_reducible refine below_viap (by assumption) ?_ ?_; (first | omega | (simp <;> omega)))))⟩
set_option maxRecDepth 100000 in
set_option maxHeartbeats 6400000 in
theorem cut3_any (w : World) : Calls Tryz.prog 61 #[.int .i64 3] w fun e w' => e = .returned (.agg #[.int .i64 0, .int .i64 4, .int .i64 1, .int .i64 5, .int .i64 2, .int .i64 6, .int .i64 3, .int .i64 7]) ∧ Below w.heap.size w w' := by
  go_enter Tryz.func61, Tryz.ntmps61
  go_wp2
  exact bodyPost_ret (v := .agg #[.int .i64 0, .int .i64 4, .int .i64 1, .int .i64 5, .int .i64 2, .int .i64 6, .int .i64 3, .int .i64 7]) (by simp [results, Tryz.results61, go_sem, *]) rfl ⟨rfl, (by repeat (first | with_reducible exact Below.refl _ _ | with_reducible assumption | with_reducible apply Below.drew | with_reducible apply below_drewN | (with_reducible apply below_setp; (first | omega | (simp <;> omega))) | (with_reducible apply below_allocp; (first | omega | (simp <;> omega))) | (with_reducible refine below_viap (by assumption) ?_ ?_; (first | omega | (simp <;> omega)))))⟩
set_option maxRecDepth 100000 in
set_option maxHeartbeats 6400000 in
theorem matrices1_any (k : Cu) (w : World) : Calls Tryz.prog 67 #[.agg #[.int .i64 k.a, .int .i64 k.b, .int .i64 k.c, .int .i64 k.d, .int .i64 k.e, .int .i64 k.f, .int .i64 k.g, .int .i64 k.h], .int .i64 1] w fun e w' => e = .returned (.tuple #[.agg #[.int .i64 k.a, .int .i64 k.b, .int .i64 k.c, .int .i64 k.d], .agg #[.int .i64 k.e, .int .i64 k.f, .int .i64 k.g, .int .i64 k.h]]) ∧ Below w.heap.size w w' := by
  have hC := Lib.hid (fun w => cut1_any w)
  go_enter Tryz.func67, Tryz.ntmps67
  go_wp2_with (go_at_call 61; (with_reducible refine (hC.out _).mono ?_); rintro e v1 ⟨rfl, hB1⟩; have hZ1 := hB1.size; (try simp at hZ1); (try have zl1 : w.heap.size < v1.heap.size := by omega); (try have ze1 : w.heap.size ≤ v1.heap.size := by omega); (try have zn1 : ¬ w.heap.size = v1.heap.size := by omega); (try have zm1 : ¬ v1.heap.size = w.heap.size := by omega); have hX1 : Blk v1 (w.heap.size) 60 #[.int .i64 k.a, .int .i64 k.b, .int .i64 k.c, .int .i64 k.d, .int .i64 k.e, .int .i64 k.f, .int .i64 k.g, .int .i64 k.h] := Blk.call (by (repeat (first | with_reducible assumption | (with_reducible apply Blk.new_at; (first | rfl | (simp; done))) | with_reducible apply Blk.store3 | with_reducible apply Blk.store4 | (with_reducible apply Blk.farp; (first | omega | (simp <;> omega))) | with_reducible apply Blk.allocp | with_reducible apply Blk.drew | with_reducible apply Blk.drewN))) hB1; have cX1 := hX1.cell; have fX1 := hX1.frozen; have lX1 := hX1.lt; have mX1 := Nat.ne_of_gt lX1; have nX1 := Nat.ne_of_lt lX1; have hR1 : Blk v1 (w.heap.size + 1) 27 #[.int .i64 0, .int .i64 0, .int .i64 0, .int .i64 0] := Blk.call (by (repeat (first | with_reducible assumption | (with_reducible apply Blk.new_at; (first | rfl | (simp; done))) | with_reducible apply Blk.store3 | with_reducible apply Blk.store4 | (with_reducible apply Blk.farp; (first | omega | (simp <;> omega))) | with_reducible apply Blk.allocp | with_reducible apply Blk.drew | with_reducible apply Blk.drewN))) hB1; have cR1 := hR1.cell; have fR1 := hR1.frozen; have lR1 := hR1.lt; have mR1 := Nat.ne_of_gt lR1; have nR1 := Nat.ne_of_lt lR1; have hS1 : Blk v1 (w.heap.size + 1 + 1) 27 #[.int .i64 0, .int .i64 0, .int .i64 0, .int .i64 0] := Blk.call (by (repeat (first | with_reducible assumption | (with_reducible apply Blk.new_at; (first | rfl | (simp; done))) | with_reducible apply Blk.store3 | with_reducible apply Blk.store4 | (with_reducible apply Blk.farp; (first | omega | (simp <;> omega))) | with_reducible apply Blk.allocp | with_reducible apply Blk.drew | with_reducible apply Blk.drewN))) hB1; have cS1 := hS1.cell; have fS1 := hS1.frozen; have lS1 := hS1.lt; have mS1 := Nat.ne_of_gt lS1; have nS1 := Nat.ne_of_lt lS1)
  go_region_held3 (fun w' => w'.cell? ⟨w.heap.size, 0, none⟩ = some (.int .i64 (k.a)) ∧ w'.cell? ⟨w.heap.size, 1, none⟩ = some (.int .i64 (k.b)) ∧ w'.cell? ⟨w.heap.size, 2, none⟩ = some (.int .i64 (k.c)) ∧ w'.cell? ⟨w.heap.size, 3, none⟩ = some (.int .i64 (k.d)) ∧ w'.cell? ⟨w.heap.size, 4, none⟩ = some (.int .i64 (k.e)) ∧ w'.cell? ⟨w.heap.size, 5, none⟩ = some (.int .i64 (k.f)) ∧ w'.cell? ⟨w.heap.size, 6, none⟩ = some (.int .i64 (k.g)) ∧ w'.cell? ⟨w.heap.size, 7, none⟩ = some (.int .i64 (k.h)) ∧ w'.cell? ⟨v1.heap.size, 0, none⟩ = some (.int .i64 (0)) ∧ w'.cell? ⟨v1.heap.size, 1, none⟩ = some (.int .i64 (1)) ∧ w'.cell? ⟨v1.heap.size, 2, none⟩ = some (.int .i64 (2)) ∧ w'.cell? ⟨v1.heap.size, 3, none⟩ = some (.int .i64 (3)) ∧ w'.cell? ⟨v1.heap.size, 4, none⟩ = some (.int .i64 (4)) ∧ w'.cell? ⟨v1.heap.size, 5, none⟩ = some (.int .i64 (5)) ∧ w'.cell? ⟨v1.heap.size, 6, none⟩ = some (.int .i64 (6)) ∧ w'.cell? ⟨v1.heap.size, 7, none⟩ = some (.int .i64 (7))) (first | (go_keep; done) | (go_simp; done)) (fail)
  go_wp2
  exact bodyPost_ret (v := .tuple #[.agg #[.int .i64 k.a, .int .i64 k.b, .int .i64 k.c, .int .i64 k.d], .agg #[.int .i64 k.e, .int .i64 k.f, .int .i64 k.g, .int .i64 k.h]]) (by simp [results, Tryz.results67, go_sem, *]) rfl ⟨rfl, (by repeat (first | with_reducible exact Below.refl _ _ | with_reducible assumption | with_reducible apply Below.drew | with_reducible apply below_drewN | (with_reducible apply below_setp; (first | omega | (simp <;> omega))) | (with_reducible apply below_allocp; (first | omega | (simp <;> omega))) | (with_reducible refine below_viap (by assumption) ?_ ?_; (first | omega | (simp <;> omega)))))⟩
set_option maxRecDepth 100000 in
set_option maxHeartbeats 6400000 in
theorem matrices2_any (k : Cu) (w : World) : Calls Tryz.prog 67 #[.agg #[.int .i64 k.a, .int .i64 k.b, .int .i64 k.c, .int .i64 k.d, .int .i64 k.e, .int .i64 k.f, .int .i64 k.g, .int .i64 k.h], .int .i64 2] w fun e w' => e = .returned (.tuple #[.agg #[.int .i64 k.a, .int .i64 k.c, .int .i64 k.e, .int .i64 k.g], .agg #[.int .i64 k.b, .int .i64 k.d, .int .i64 k.f, .int .i64 k.h]]) ∧ Below w.heap.size w w' := by
  have hC := Lib.hid (fun w => cut2_any w)
  go_enter Tryz.func67, Tryz.ntmps67
  go_wp2_with (go_at_call 61; (with_reducible refine (hC.out _).mono ?_); rintro e v1 ⟨rfl, hB1⟩; have hZ1 := hB1.size; (try simp at hZ1); (try have zl1 : w.heap.size < v1.heap.size := by omega); (try have ze1 : w.heap.size ≤ v1.heap.size := by omega); (try have zn1 : ¬ w.heap.size = v1.heap.size := by omega); (try have zm1 : ¬ v1.heap.size = w.heap.size := by omega); have hX1 : Blk v1 (w.heap.size) 60 #[.int .i64 k.a, .int .i64 k.b, .int .i64 k.c, .int .i64 k.d, .int .i64 k.e, .int .i64 k.f, .int .i64 k.g, .int .i64 k.h] := Blk.call (by (repeat (first | with_reducible assumption | (with_reducible apply Blk.new_at; (first | rfl | (simp; done))) | with_reducible apply Blk.store3 | with_reducible apply Blk.store4 | (with_reducible apply Blk.farp; (first | omega | (simp <;> omega))) | with_reducible apply Blk.allocp | with_reducible apply Blk.drew | with_reducible apply Blk.drewN))) hB1; have cX1 := hX1.cell; have fX1 := hX1.frozen; have lX1 := hX1.lt; have mX1 := Nat.ne_of_gt lX1; have nX1 := Nat.ne_of_lt lX1; have hR1 : Blk v1 (w.heap.size + 1) 27 #[.int .i64 0, .int .i64 0, .int .i64 0, .int .i64 0] := Blk.call (by (repeat (first | with_reducible assumption | (with_reducible apply Blk.new_at; (first | rfl | (simp; done))) | with_reducible apply Blk.store3 | with_reducible apply Blk.store4 | (with_reducible apply Blk.farp; (first | omega | (simp <;> omega))) | with_reducible apply Blk.allocp | with_reducible apply Blk.drew | with_reducible apply Blk.drewN))) hB1; have cR1 := hR1.cell; have fR1 := hR1.frozen; have lR1 := hR1.lt; have mR1 := Nat.ne_of_gt lR1; have nR1 := Nat.ne_of_lt lR1; have hS1 : Blk v1 (w.heap.size + 1 + 1) 27 #[.int .i64 0, .int .i64 0, .int .i64 0, .int .i64 0] := Blk.call (by (repeat (first | with_reducible assumption | (with_reducible apply Blk.new_at; (first | rfl | (simp; done))) | with_reducible apply Blk.store3 | with_reducible apply Blk.store4 | (with_reducible apply Blk.farp; (first | omega | (simp <;> omega))) | with_reducible apply Blk.allocp | with_reducible apply Blk.drew | with_reducible apply Blk.drewN))) hB1; have cS1 := hS1.cell; have fS1 := hS1.frozen; have lS1 := hS1.lt; have mS1 := Nat.ne_of_gt lS1; have nS1 := Nat.ne_of_lt lS1)
  go_region_held3 (fun w' => w'.cell? ⟨w.heap.size, 0, none⟩ = some (.int .i64 (k.a)) ∧ w'.cell? ⟨w.heap.size, 1, none⟩ = some (.int .i64 (k.b)) ∧ w'.cell? ⟨w.heap.size, 2, none⟩ = some (.int .i64 (k.c)) ∧ w'.cell? ⟨w.heap.size, 3, none⟩ = some (.int .i64 (k.d)) ∧ w'.cell? ⟨w.heap.size, 4, none⟩ = some (.int .i64 (k.e)) ∧ w'.cell? ⟨w.heap.size, 5, none⟩ = some (.int .i64 (k.f)) ∧ w'.cell? ⟨w.heap.size, 6, none⟩ = some (.int .i64 (k.g)) ∧ w'.cell? ⟨w.heap.size, 7, none⟩ = some (.int .i64 (k.h)) ∧ w'.cell? ⟨v1.heap.size, 0, none⟩ = some (.int .i64 (0)) ∧ w'.cell? ⟨v1.heap.size, 1, none⟩ = some (.int .i64 (2)) ∧ w'.cell? ⟨v1.heap.size, 2, none⟩ = some (.int .i64 (4)) ∧ w'.cell? ⟨v1.heap.size, 3, none⟩ = some (.int .i64 (6)) ∧ w'.cell? ⟨v1.heap.size, 4, none⟩ = some (.int .i64 (1)) ∧ w'.cell? ⟨v1.heap.size, 5, none⟩ = some (.int .i64 (3)) ∧ w'.cell? ⟨v1.heap.size, 6, none⟩ = some (.int .i64 (5)) ∧ w'.cell? ⟨v1.heap.size, 7, none⟩ = some (.int .i64 (7))) (first | (go_keep; done) | (go_simp; done)) (fail)
  go_wp2
  exact bodyPost_ret (v := .tuple #[.agg #[.int .i64 k.a, .int .i64 k.c, .int .i64 k.e, .int .i64 k.g], .agg #[.int .i64 k.b, .int .i64 k.d, .int .i64 k.f, .int .i64 k.h]]) (by simp [results, Tryz.results67, go_sem, *]) rfl ⟨rfl, (by repeat (first | with_reducible exact Below.refl _ _ | with_reducible assumption | with_reducible apply Below.drew | with_reducible apply below_drewN | (with_reducible apply below_setp; (first | omega | (simp <;> omega))) | (with_reducible apply below_allocp; (first | omega | (simp <;> omega))) | (with_reducible refine below_viap (by assumption) ?_ ?_; (first | omega | (simp <;> omega)))))⟩
set_option maxRecDepth 100000 in
set_option maxHeartbeats 6400000 in
theorem matrices3_any (k : Cu) (w : World) : Calls Tryz.prog 67 #[.agg #[.int .i64 k.a, .int .i64 k.b, .int .i64 k.c, .int .i64 k.d, .int .i64 k.e, .int .i64 k.f, .int .i64 k.g, .int .i64 k.h], .int .i64 3] w fun e w' => e = .returned (.tuple #[.agg #[.int .i64 k.a, .int .i64 k.e, .int .i64 k.b, .int .i64 k.f], .agg #[.int .i64 k.c, .int .i64 k.g, .int .i64 k.d, .int .i64 k.h]]) ∧ Below w.heap.size w w' := by
  have hC := Lib.hid (fun w => cut3_any w)
  go_enter Tryz.func67, Tryz.ntmps67
  go_wp2_with (go_at_call 61; (with_reducible refine (hC.out _).mono ?_); rintro e v1 ⟨rfl, hB1⟩; have hZ1 := hB1.size; (try simp at hZ1); (try have zl1 : w.heap.size < v1.heap.size := by omega); (try have ze1 : w.heap.size ≤ v1.heap.size := by omega); (try have zn1 : ¬ w.heap.size = v1.heap.size := by omega); (try have zm1 : ¬ v1.heap.size = w.heap.size := by omega); have hX1 : Blk v1 (w.heap.size) 60 #[.int .i64 k.a, .int .i64 k.b, .int .i64 k.c, .int .i64 k.d, .int .i64 k.e, .int .i64 k.f, .int .i64 k.g, .int .i64 k.h] := Blk.call (by (repeat (first | with_reducible assumption | (with_reducible apply Blk.new_at; (first | rfl | (simp; done))) | with_reducible apply Blk.store3 | with_reducible apply Blk.store4 | (with_reducible apply Blk.farp; (first | omega | (simp <;> omega))) | with_reducible apply Blk.allocp | with_reducible apply Blk.drew | with_reducible apply Blk.drewN))) hB1; have cX1 := hX1.cell; have fX1 := hX1.frozen; have lX1 := hX1.lt; have mX1 := Nat.ne_of_gt lX1; have nX1 := Nat.ne_of_lt lX1; have hR1 : Blk v1 (w.heap.size + 1) 27 #[.int .i64 0, .int .i64 0, .int .i64 0, .int .i64 0] := Blk.call (by (repeat (first | with_reducible assumption | (with_reducible apply Blk.new_at; (first | rfl | (simp; done))) | with_reducible apply Blk.store3 | with_reducible apply Blk.store4 | (with_reducible apply Blk.farp; (first | omega | (simp <;> omega))) | with_reducible apply Blk.allocp | with_reducible apply Blk.drew | with_reducible apply Blk.drewN))) hB1; have cR1 := hR1.cell; have fR1 := hR1.frozen; have lR1 := hR1.lt; have mR1 := Nat.ne_of_gt lR1; have nR1 := Nat.ne_of_lt lR1; have hS1 : Blk v1 (w.heap.size + 1 + 1) 27 #[.int .i64 0, .int .i64 0, .int .i64 0, .int .i64 0] := Blk.call (by (repeat (first | with_reducible assumption | (with_reducible apply Blk.new_at; (first | rfl | (simp; done))) | with_reducible apply Blk.store3 | with_reducible apply Blk.store4 | (with_reducible apply Blk.farp; (first | omega | (simp <;> omega))) | with_reducible apply Blk.allocp | with_reducible apply Blk.drew | with_reducible apply Blk.drewN))) hB1; have cS1 := hS1.cell; have fS1 := hS1.frozen; have lS1 := hS1.lt; have mS1 := Nat.ne_of_gt lS1; have nS1 := Nat.ne_of_lt lS1)
  go_region_held3 (fun w' => w'.cell? ⟨w.heap.size, 0, none⟩ = some (.int .i64 (k.a)) ∧ w'.cell? ⟨w.heap.size, 1, none⟩ = some (.int .i64 (k.b)) ∧ w'.cell? ⟨w.heap.size, 2, none⟩ = some (.int .i64 (k.c)) ∧ w'.cell? ⟨w.heap.size, 3, none⟩ = some (.int .i64 (k.d)) ∧ w'.cell? ⟨w.heap.size, 4, none⟩ = some (.int .i64 (k.e)) ∧ w'.cell? ⟨w.heap.size, 5, none⟩ = some (.int .i64 (k.f)) ∧ w'.cell? ⟨w.heap.size, 6, none⟩ = some (.int .i64 (k.g)) ∧ w'.cell? ⟨w.heap.size, 7, none⟩ = some (.int .i64 (k.h)) ∧ w'.cell? ⟨v1.heap.size, 0, none⟩ = some (.int .i64 (0)) ∧ w'.cell? ⟨v1.heap.size, 1, none⟩ = some (.int .i64 (4)) ∧ w'.cell? ⟨v1.heap.size, 2, none⟩ = some (.int .i64 (1)) ∧ w'.cell? ⟨v1.heap.size, 3, none⟩ = some (.int .i64 (5)) ∧ w'.cell? ⟨v1.heap.size, 4, none⟩ = some (.int .i64 (2)) ∧ w'.cell? ⟨v1.heap.size, 5, none⟩ = some (.int .i64 (6)) ∧ w'.cell? ⟨v1.heap.size, 6, none⟩ = some (.int .i64 (3)) ∧ w'.cell? ⟨v1.heap.size, 7, none⟩ = some (.int .i64 (7))) (first | (go_keep; done) | (go_simp; done)) (fail)
  go_wp2
  exact bodyPost_ret (v := .tuple #[.agg #[.int .i64 k.a, .int .i64 k.e, .int .i64 k.b, .int .i64 k.f], .agg #[.int .i64 k.c, .int .i64 k.g, .int .i64 k.d, .int .i64 k.h]]) (by simp [results, Tryz.results67, go_sem, *]) rfl ⟨rfl, (by repeat (first | with_reducible exact Below.refl _ _ | with_reducible assumption | with_reducible apply Below.drew | with_reducible apply below_drewN | (with_reducible apply below_setp; (first | omega | (simp <;> omega))) | (with_reducible apply below_allocp; (first | omega | (simp <;> omega))) | (with_reducible refine below_viap (by assumption) ?_ ?_; (first | omega | (simp <;> omega)))))⟩
end Go.Proofs.YtlcegkafagdcjaaGreatDoor
