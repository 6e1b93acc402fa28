/- Contracts: drawn cubes (written by gen_QM.py). -/
import Derived.Test.YtlcegkafagdcjaaGreatDoorQL
import Derived.Test.YtlcegkafagdcjaaGreatDoorDK
import Derived.Deep.DeepCutAuto
namespace Go.Proofs.YtlcegkafagdcjaaGreatDoor
open Go.RowKit

theorem Blk.put8x {w : World} {g : Nat} {t : TypeId} {x0 x1 x2 x3 x4 x5 x6 x7 a b c d e f u v : Value} (h : Blk w g t #[x0, x1, x2, x3, x4, x5, x6, x7]) :
    Blk ((((((((w.setCell ⟨g, 0, none⟩ a).setCell ⟨g, 1, none⟩ b).setCell ⟨g, 2, none⟩ c).setCell ⟨g, 3, none⟩ d).setCell ⟨g, 4, none⟩ e).setCell ⟨g, 5, none⟩ f).setCell ⟨g, 6, none⟩ u).setCell ⟨g, 7, none⟩ v) g t #[a, b, c, d, e, f, u, v] := h.put8 rfl
theorem blkI_set {w : World} {g i : Nat} {t : TypeId} {L : List Int} {x : Int} (h : Blk w g t (cellsI L).toArray) : Blk (w.setCell ⟨g, i, none⟩ (.int .i64 x)) g t (cellsI (L.set i x)).toArray := by
  have := h.set_ i (.int .i64 x)
  have e : (cellsI L).toArray.setIfInBounds i (.int .i64 x) = (cellsI (L.set i x)).toArray := by
    apply Array.ext'
    rw [Array.toList_setIfInBounds]
    simp [cellsI, List.map_set]
  rw [← e]; exact this
theorem blkI_cell {w : World} {g i : Nat} {t : TypeId} {L : List Int} (h : Blk w g t (cellsI L).toArray) (hi : i < L.length) : ∃ y : Int, w.cell? ⟨g, i, none⟩ = some (.int .i64 y) :=
  ⟨L[i], by rw [h.cell, List.getElem?_toArray]; exact cellsI_get L i hi⟩
theorem list8 {L : List Int} (h : L.length = 8) : ∃ k : Cu, L = cuL k := by
  match L, h with
  | [a, b, c, d, e, f, g, u], _ => exact ⟨⟨a, b, c, d, e, f, g, u⟩, rfl⟩
section
variable {zs : List Int} {v : Value} {B G n m : Nat} {w0 w w1 w2 : World}
theorem among_eqQ (h : Drw zs v B G n w0 w) (hB : B ≤ G) (L : List Int) (P : Int → Prop) (hP : ∀ x ∈ L, P x) (h1 : 1 ≤ L.length) (h2 : L.length ≤ 1000) (hn : n + 2 ≤ 100000000) {N k : Nat} {xs : Array Value} (hN : N = w.heap.size) (hk : L.length = k) (hxs : (cellsI L).toArray = xs) :
    Calls Tryz.prog 19 #[.pointer (some ⟨G, 0, none⟩), .slice (some ⟨N, 0, none⟩) k k] (w.alloc (.cells xs 3)) fun e w' => ∃ x : Int, e = .returned (.int .i64 x) ∧ P x ∧ Drw zs v B G (n + 2) w0 w' ∧ w.grownBy w' (some G) := by
  subst hN hk hxs
  exact among_d h hB L P hP h1 h2 hn
theorem cuActX (k : Cu) (m : M4) (x : Int) (w : World) (hx : 0 ≤ x ∧ x < 3) : Calls Tryz.prog 32 #[.agg #[.int .i64 k.a, .int .i64 k.b, .int .i64 k.c, .int .i64 k.d, .int .i64 k.e, .int .i64 k.f, .int .i64 k.g, .int .i64 k.h], .int .i64 (1 + x), .agg #[.int .i64 m.p, .int .i64 m.q, .int .i64 m.r, .int .i64 m.s]] w fun e w' => ∃ u : Cu, e = .returned (.agg #[.int .i64 (u).a, .int .i64 (u).b, .int .i64 (u).c, .int .i64 (u).d, .int .i64 (u).e, .int .i64 (u).f, .int .i64 (u).g, .int .i64 (u).h]) ∧ Below w.heap.size w w' := by
  obtain ⟨j, rfl⟩ : ∃ j : Nat, x = j := ⟨x.toNat, by omega⟩
  rw [show (1 : Int) + j = (j : Int) + 1 by omega]
  exact (cuAct_any k j m w (by omega)).mono fun e w' ⟨h1, h2⟩ => ⟨_, h1, h2⟩
set_option maxRecDepth 100000 in
set_option maxHeartbeats 12800000 in
theorem cube_d (h : Drw zs v B G n w0 w) (hB : B ≤ G) (hn : n + 60 ≤ 100000000) :
    Calls Tryz.prog 18 #[.pointer (some ⟨G, 0, none⟩)] w fun e w' => ∃ k : Cu, e = .returned (.agg #[.int .i64 k.a, .int .i64 k.b, .int .i64 k.c, .int .i64 k.d, .int .i64 k.e, .int .i64 k.f, .int .i64 k.g, .int .i64 k.h]) ∧ True ∧ Drw zs v B G (n + 60) w0 w' ∧ w.grownBy w' (some G) := by
  have H := Lib.hid h
  have lG0 := h.lt
  have hD0 := Lib.hid (Drw.start h.rd h.cur)
  clear h
  have hfin : Hid (∀ (k : Cu) (w' : World), Drw zs v B G (n + 60) w w' → ∃ f : Cu, Ending.returned (.agg #[.int .i64 k.a, .int .i64 k.b, .int .i64 k.c, .int .i64 k.d, .int .i64 k.e, .int .i64 k.f, .int .i64 k.g, .int .i64 k.h]) = .returned (.agg #[.int .i64 (f).a, .int .i64 (f).b, .int .i64 (f).c, .int .i64 (f).d, .int .i64 (f).e, .int .i64 (f).f, .int .i64 (f).g, .int .i64 (f).h]) ∧ True ∧ Drw zs v B G (n + 60) w0 w' ∧ w.grownBy w' (some G)) :=
    Lib.hid (fun k w' hd => ⟨k, rfl, trivial, H.out.next hB hd.cur hd.gr, hd.gr⟩)
  have HMK := Lib.hid (fun w => run_make_row' (P := Tryz.prog) 54 3 (.int .i64 0) 8 Tryz.underlying54 infoInt rfl .i64 .i64 8 (by omega) (by omega) w)
  rw [made8, show ((8 : Nat) : Int) = 8 from rfl] at HMK
  go_enter Tryz.func18, Tryz.ntmps18
  go_wp2_with fail
  refine (pick_d (by repeat (first | with_reducible assumption | (with_reducible apply Hid.out; assumption) | with_reducible apply Drw.drewN | with_reducible apply Drw.drew | with_reducible apply Drw.alloc | (with_reducible refine Drw.setp ?_ ?_ ?_ ?_; (first | omega | (simp <;> omega)); (first | omega | (simp <;> omega)); (first | omega | (simp <;> omega))))) hB 8 (by omega) (by omega)).mono ?_
  rintro e v1 ⟨x1, rfl, hx1, hD1', hG1⟩
  have hD1 := Lib.hid hD1'; have lG1 := hD1'.lt; have zG1 := hG1.size; (try simp at zG1)
  have hA1 : Blk v1 (w.heap.size) 25 #[.int .i64 0, .int .i64 0, .int .i64 0, .int .i64 0, .int .i64 0, .int .i64 0, .int .i64 0, .int .i64 0] := Blk.grown (by (repeat (first | with_reducible assumption | (with_reducible apply Blk.new_at; (first | rfl | (simp; done))) | with_reducible apply Blk.store3 | with_reducible apply Blk.store4 | (with_reducible apply Blk.farp; (first | omega | (simp <;> omega))) | with_reducible apply Blk.allocp | with_reducible apply Blk.drew | with_reducible apply Blk.drewN))) hG1 (by simp <;> omega)
  have cA1 := hA1.cell; have fA1 := hA1.frozen; have lA1 := hA1.lt; have mA1 := Nat.ne_of_gt lA1; have nA1 := Nat.ne_of_lt lA1
  clear hD1' hG1 hD0
  have hx1' : x1 = 0 ∨ x1 = 1 ∨ x1 = 2 ∨ 2 < x1 := by omega
  clear hx1
  rcases hx1' with rfl | rfl | rfl | hx1
  · have hmk := HMK.out
    go_wp2
    clear hmk
    go_loopw [18] (fun vi wr => ∃ (i : Nat) (L : List Int), vi = .int .i64 i ∧ i ≤ 8 ∧ Hid (L.length = 8) ∧ Blk wr v1.heap.size 3 (cellsI L).toArray ∧ Blk wr w.heap.size 25 #[.int .i64 0, .int .i64 0, .int .i64 0, .int .i64 0, .int .i64 0, .int .i64 0, .int .i64 0, .int .i64 0] ∧ Hid (Drw zs v B G (n + 2 + 2 * i) w wr)) (fun vi _ => 8 - (intOf vi).toNat)
    case atStart => exact ⟨0, [0, 0, 0, 0, 0, 0, 0, 0], rfl, by omega, Lib.hid rfl, Blk.new_at rfl, by (repeat (first | with_reducible assumption | (with_reducible apply Blk.new_at; (first | rfl | (simp; done))) | with_reducible apply Blk.store3 | with_reducible apply Blk.store4 | (with_reducible apply Blk.farp; (first | omega | (simp <;> omega))) | with_reducible apply Blk.allocp | with_reducible apply Blk.drew | with_reducible apply Blk.drewN)), Lib.hid (Drw.more (n := n + 2) (by repeat (first | with_reducible assumption | (with_reducible apply Hid.out; assumption) | with_reducible apply Drw.drewN | with_reducible apply Drw.drew | with_reducible apply Drw.alloc | (with_reducible refine Drw.setp ?_ ?_ ?_ ?_; (first | omega | (simp <;> omega)); (first | omega | (simp <;> omega)); (first | omega | (simp <;> omega))))) (by omega))⟩
    case round =>
      clear hA1 cA1 fA1 lA1 mA1 nA1 hD1
      obtain ⟨i, L, rfl, hi, hL, hO, hA, hD⟩ := hrel
      have cA := hA.cell; have fA := hA.frozen; have lA := hA.lt; have mA := Nat.ne_of_gt lA; have nA := Nat.ne_of_lt lA; have fO := hO.frozen; have lO := hO.lt; have lG := hD.out.lt
      have nOA : ¬ v1.heap.size = w.heap.size := by omega
      have nAO : ¬ w.heap.size = v1.heap.size := by omega
      have nOG : ¬ v1.heap.size = G := by omega
      have nGO : ¬ G = v1.heap.size := by omega
      by_cases hlt : i < 8
      · have kI : (i : Int) < 8 := by omega
        go_wp2_with fail
        refine (pick_d (n := n + 2 + 2 * i) (by repeat (first | with_reducible assumption | (with_reducible apply Hid.out; assumption) | with_reducible apply Drw.drewN | with_reducible apply Drw.drew | with_reducible apply Drw.alloc | (with_reducible refine Drw.setp ?_ ?_ ?_ ?_; (first | omega | (simp <;> omega)); (first | omega | (simp <;> omega)); (first | omega | (simp <;> omega))))) hB 9 (by omega) (by omega)).mono ?_
        rintro e v5 ⟨x5, rfl, hx5, hD5', hG5⟩
        have hD5 := Lib.hid hD5'; have lG5 := hD5'.lt; have zG5 := hG5.size; (try simp at zG5)
        have hA5 := Blk.grown hA hG5 (by simp <;> omega); have hO5 := Blk.grown hO hG5 (by simp <;> omega)
        have cA5 := hA5.cell; have fA5 := hA5.frozen; have lA5 := hA5.lt; have mA5 := Nat.ne_of_gt lA5; have nA5 := Nat.ne_of_lt lA5; have fO5 := hO5.frozen; have lO5 := hO5.lt
        clear hD5' hG5 hD cA fA lA mA nA fO lO hA hO lG
        clear hx5
        obtain ⟨y, hy⟩ := blkI_cell hO5 (show i < L.length by rw [hL.out]; exact hlt)
        go_wp2
        go_roundw
        case rel => exact ⟨i + 1, L.set i _, by go_num, by omega, Lib.hid (by rw [List.length_set]; exact hL.out), blkI_set hO5, by repeat (first | with_reducible exact hA5 | (with_reducible apply Blk.farp; (first | omega | (simp <;> omega)))), Lib.hid (Drw.more (n := n + 2 + 2 * i + 2) (by repeat (first | with_reducible assumption | (with_reducible apply Hid.out; assumption) | with_reducible apply Drw.drewN | with_reducible apply Drw.drew | with_reducible apply Drw.alloc | (with_reducible refine Drw.setp ?_ ?_ ?_ ?_; (first | omega | (simp <;> omega)); (first | omega | (simp <;> omega)); (first | omega | (simp <;> omega))))) (by omega))⟩
        case measure => (first | (simp [intOf]; done) | (simp [intOf]; omega))
      · obtain rfl : i = 8 := by omega
        obtain ⟨k, rfl⟩ := list8 hL.out
        clear hL
        have hO8 : Blk wr v1.heap.size 3 #[.int .i64 k.a, .int .i64 k.b, .int .i64 k.c, .int .i64 k.d, .int .i64 k.e, .int .i64 k.f, .int .i64 k.g, .int .i64 k.h] := hO
        have HO := Lib.hid (fun w h => cuOf_any k v1.heap.size w h)
        go_wp2_with fail
        refine (HO.out _ hO8).mono ?_
        rintro e v5 ⟨rfl, hB5⟩
        have hZ5 := hB5.size
        have hA5 := hA.call hB5; have cA5 := hA5.cell; have fA5 := hA5.frozen; have lA5 := hA5.lt
        have hD5 := Lib.hid (Drw.call hD.out hB hB5)
        clear hB5 hD hO hO8 hA cA fA lA mA nA fO lO
        go_wp2
        exact bodyPost_ret (v := .agg #[.int .i64 k.a, .int .i64 k.b, .int .i64 k.c, .int .i64 k.d, .int .i64 k.e, .int .i64 k.f, .int .i64 k.g, .int .i64 k.h]) (by simp [results, Tryz.results18, go_sem, *]) rfl (hfin.out k _ (Drw.more (n := n + 2 + 2 * 8) (by repeat (first | with_reducible assumption | (with_reducible apply Hid.out; assumption) | with_reducible apply Drw.drewN | with_reducible apply Drw.drew | with_reducible apply Drw.alloc | (with_reducible refine Drw.setp ?_ ?_ ?_ ?_; (first | omega | (simp <;> omega)); (first | omega | (simp <;> omega)); (first | omega | (simp <;> omega))))) (by omega)))
  · have hmk := HMK.out
    go_wp2
    clear hmk
    go_loopw [35] (fun vi wr => ∃ (i : Nat) (L : List Int), vi = .int .i64 i ∧ i ≤ 8 ∧ Hid (L.length = 8) ∧ Blk wr v1.heap.size 3 (cellsI L).toArray ∧ Blk wr w.heap.size 25 #[.int .i64 0, .int .i64 0, .int .i64 0, .int .i64 0, .int .i64 0, .int .i64 0, .int .i64 0, .int .i64 0] ∧ Hid (Drw zs v B G (n + 2 + 4 * i) w wr)) (fun vi _ => 8 - (intOf vi).toNat)
    case atStart => exact ⟨0, [0, 0, 0, 0, 0, 0, 0, 0], rfl, by omega, Lib.hid rfl, Blk.new_at rfl, by (repeat (first | with_reducible assumption | (with_reducible apply Blk.new_at; (first | rfl | (simp; done))) | with_reducible apply Blk.store3 | with_reducible apply Blk.store4 | (with_reducible apply Blk.farp; (first | omega | (simp <;> omega))) | with_reducible apply Blk.allocp | with_reducible apply Blk.drew | with_reducible apply Blk.drewN)), Lib.hid (Drw.more (n := n + 2) (by repeat (first | with_reducible assumption | (with_reducible apply Hid.out; assumption) | with_reducible apply Drw.drewN | with_reducible apply Drw.drew | with_reducible apply Drw.alloc | (with_reducible refine Drw.setp ?_ ?_ ?_ ?_; (first | omega | (simp <;> omega)); (first | omega | (simp <;> omega)); (first | omega | (simp <;> omega))))) (by omega))⟩
    case round =>
      clear hA1 cA1 fA1 lA1 mA1 nA1 hD1
      obtain ⟨i, L, rfl, hi, hL, hO, hA, hD⟩ := hrel
      have cA := hA.cell; have fA := hA.frozen; have lA := hA.lt; have mA := Nat.ne_of_gt lA; have nA := Nat.ne_of_lt lA; have fO := hO.frozen; have lO := hO.lt; have lG := hD.out.lt
      have nOA : ¬ v1.heap.size = w.heap.size := by omega
      have nAO : ¬ w.heap.size = v1.heap.size := by omega
      have nOG : ¬ v1.heap.size = G := by omega
      have nGO : ¬ G = v1.heap.size := by omega
      by_cases hlt : i < 8
      · have kI : (i : Int) < 8 := by omega
        go_wp2_with fail
        refine (pick_d (n := n + 2 + 4 * i) (by repeat (first | with_reducible assumption | (with_reducible apply Hid.out; assumption) | with_reducible apply Drw.drewN | with_reducible apply Drw.drew | with_reducible apply Drw.alloc | (with_reducible refine Drw.setp ?_ ?_ ?_ ?_; (first | omega | (simp <;> omega)); (first | omega | (simp <;> omega)); (first | omega | (simp <;> omega))))) hB 1003 (by omega) (by omega)).mono ?_
        rintro e v5 ⟨x5, rfl, hx5, hD5', hG5⟩
        have hD5 := Lib.hid hD5'; have lG5 := hD5'.lt; have zG5 := hG5.size; (try simp at zG5)
        have hA5 := Blk.grown hA hG5 (by simp <;> omega); have hO5 := Blk.grown hO hG5 (by simp <;> omega)
        have cA5 := hA5.cell; have fA5 := hA5.frozen; have lA5 := hA5.lt; have mA5 := Nat.ne_of_gt lA5; have nA5 := Nat.ne_of_lt lA5; have fO5 := hO5.frozen; have lO5 := hO5.lt
        clear hD5' hG5 hD cA fA lA mA nA fO lO hA hO lG
        obtain ⟨p5, k5⟩ : ∃ p, wrap64 (x5 - 501) = p := ⟨_, rfl⟩
        clear hx5
        have K5 := Lib.hid k5
        clear k5
        have k5 := K5.out
        go_wp2_with fail
        clear k5 K5
        refine (among_eqQ (w := v5) (w0 := w) (Hid.out hD5) hB [0, 1, -1, 500, -500, p5] (fun _ => True) (by simp) (by simp) (by simp) (by omega) rfl rfl rfl).mono ?_
        rintro e v6 ⟨x6, rfl, hx6, hD6', hG6⟩
        have hD6 := Lib.hid hD6'; have lG6 := hD6'.lt; have zG6 := hG6.size; (try simp at zG6)
        have hA6 := Blk.grown hA5 hG6 (by simp <;> omega); have hO6 := Blk.grown hO5 hG6 (by simp <;> omega)
        have cA6 := hA6.cell; have fA6 := hA6.frozen; have lA6 := hA6.lt; have mA6 := Nat.ne_of_gt lA6; have nA6 := Nat.ne_of_lt lA6; have fO6 := hO6.frozen; have lO6 := hO6.lt
        clear hD6' hG6 hD5 cA5 fA5 lA5 mA5 nA5 fO5 lO5 hA5 hO5 lG5
        clear hx6
        obtain ⟨y, hy⟩ := blkI_cell hO6 (show i < L.length by rw [hL.out]; exact hlt)
        go_wp2
        go_roundw
        case rel => exact ⟨i + 1, L.set i _, by go_num, by omega, Lib.hid (by rw [List.length_set]; exact hL.out), blkI_set hO6, by repeat (first | with_reducible exact hA6 | (with_reducible apply Blk.farp; (first | omega | (simp <;> omega)))), Lib.hid (Drw.more (n := n + 2 + 4 * i + 4) (by repeat (first | with_reducible assumption | (with_reducible apply Hid.out; assumption) | with_reducible apply Drw.drewN | with_reducible apply Drw.drew | with_reducible apply Drw.alloc | (with_reducible refine Drw.setp ?_ ?_ ?_ ?_; (first | omega | (simp <;> omega)); (first | omega | (simp <;> omega)); (first | omega | (simp <;> omega))))) (by omega))⟩
        case measure => (first | (simp [intOf]; done) | (simp [intOf]; omega))
      · obtain rfl : i = 8 := by omega
        obtain ⟨k, rfl⟩ := list8 hL.out
        clear hL
        have hO8 : Blk wr v1.heap.size 3 #[.int .i64 k.a, .int .i64 k.b, .int .i64 k.c, .int .i64 k.d, .int .i64 k.e, .int .i64 k.f, .int .i64 k.g, .int .i64 k.h] := hO
        have HO := Lib.hid (fun w h => cuOf_any k v1.heap.size w h)
        go_wp2_with fail
        refine (HO.out _ hO8).mono ?_
        rintro e v5 ⟨rfl, hB5⟩
        have hZ5 := hB5.size
        have hA5 := hA.call hB5; have cA5 := hA5.cell; have fA5 := hA5.frozen; have lA5 := hA5.lt
        have hD5 := Lib.hid (Drw.call hD.out hB hB5)
        clear hB5 hD hO hO8 hA cA fA lA mA nA fO lO
        go_wp2
        exact bodyPost_ret (v := .agg #[.int .i64 k.a, .int .i64 k.b, .int .i64 k.c, .int .i64 k.d, .int .i64 k.e, .int .i64 k.f, .int .i64 k.g, .int .i64 k.h]) (by simp [results, Tryz.results18, go_sem, *]) rfl (hfin.out k _ (Drw.more (n := n + 2 + 4 * 8) (by repeat (first | with_reducible assumption | (with_reducible apply Hid.out; assumption) | with_reducible apply Drw.drewN | with_reducible apply Drw.drew | with_reducible apply Drw.alloc | (with_reducible refine Drw.setp ?_ ?_ ?_ ?_; (first | omega | (simp <;> omega)); (first | omega | (simp <;> omega)); (first | omega | (simp <;> omega))))) (by omega)))
  · go_wp2_with fail
    refine (goodDisc_d (n := n + 2) (by repeat (first | with_reducible assumption | (with_reducible apply Hid.out; assumption) | with_reducible apply Drw.drewN | with_reducible apply Drw.drew | with_reducible apply Drw.alloc | (with_reducible refine Drw.setp ?_ ?_ ?_ ?_; (first | omega | (simp <;> omega)); (first | omega | (simp <;> omega)); (first | omega | (simp <;> omega))))) hB (by omega)).mono ?_
    rintro e v2 ⟨d2, rfl, hx2, hD2', hG2⟩
    have hD2 := Lib.hid hD2'; have lG2 := hD2'.lt; have zG2 := hG2.size; (try simp at zG2)
    have hA2 : Blk v2 (w.heap.size) 25 #[.int .i64 0, .int .i64 0, .int .i64 0, .int .i64 0, .int .i64 0, .int .i64 0, .int .i64 0, .int .i64 0] := Blk.grown (by (repeat (first | with_reducible assumption | (with_reducible apply Blk.new_at; (first | rfl | (simp; done))) | with_reducible apply Blk.store3 | with_reducible apply Blk.store4 | (with_reducible apply Blk.farp; (first | omega | (simp <;> omega))) | with_reducible apply Blk.allocp | with_reducible apply Blk.drew | with_reducible apply Blk.drewN))) hG2 (by simp <;> omega)
    have cA2 := hA2.cell; have fA2 := hA2.frozen; have lA2 := hA2.lt; have mA2 := Nat.ne_of_gt lA2; have nA2 := Nat.ne_of_lt lA2
    clear hD2' hG2 hA1 cA1 fA1 lA1 mA1 nA1 hD1
    have HC := Lib.hid (fun w => cuOne_any d2 w (dsc_D7 hx2))
    clear hx2
    generalize cuOneF d2 = k at *
    go_wp2_with fail
    refine (HC.out _).mono ?_
    rintro e v3 ⟨rfl, hB3⟩
    have zG3 := hB3.size; (try simp at zG3)
    have hD3 := Lib.hid (Drw.call hD2.out hB hB3)
    have hA3 := Blk.call hA2 hB3; have cA3 := hA3.cell; have fA3 := hA3.frozen; have lA3 := hA3.lt; have mA3 := Nat.ne_of_gt lA3; have nA3 := Nat.ne_of_lt lA3
    clear hB3 hD2 hA2 cA2 fA2 lA2 mA2 nA2
    go_wp2
    exact bodyPost_ret (v := .agg #[.int .i64 k.a, .int .i64 k.b, .int .i64 k.c, .int .i64 k.d, .int .i64 k.e, .int .i64 k.f, .int .i64 k.g, .int .i64 k.h]) (by simp [results, Tryz.results18, go_sem, *]) rfl (hfin.out k _ (Drw.more (n := n + 2 + 4) (by repeat (first | with_reducible assumption | (with_reducible apply Hid.out; assumption) | with_reducible apply Drw.drewN | with_reducible apply Drw.drew | with_reducible apply Drw.alloc | (with_reducible refine Drw.setp ?_ ?_ ?_ ?_; (first | omega | (simp <;> omega)); (first | omega | (simp <;> omega)); (first | omega | (simp <;> omega))))) (by omega)))
  · have n0 : (x1 == 0) = false := by rw [beq_eq_false_iff_ne]; omega
    have n1 : (x1 == 1) = false := by rw [beq_eq_false_iff_ne]; omega
    have n2 : (x1 == 2) = false := by rw [beq_eq_false_iff_ne]; omega
    go_wp2_with fail
    refine (goodDisc_d (n := n + 2) (by repeat (first | with_reducible assumption | (with_reducible apply Hid.out; assumption) | with_reducible apply Drw.drewN | with_reducible apply Drw.drew | with_reducible apply Drw.alloc | (with_reducible refine Drw.setp ?_ ?_ ?_ ?_; (first | omega | (simp <;> omega)); (first | omega | (simp <;> omega)); (first | omega | (simp <;> omega))))) hB (by omega)).mono ?_
    rintro e v2 ⟨d2, rfl, hx2, hD2', hG2⟩
    have hD2 := Lib.hid hD2'; have lG2 := hD2'.lt; have zG2 := hG2.size; (try simp at zG2)
    have hA2 : Blk v2 (w.heap.size) 25 #[.int .i64 0, .int .i64 0, .int .i64 0, .int .i64 0, .int .i64 0, .int .i64 0, .int .i64 0, .int .i64 0] := Blk.grown (by (repeat (first | with_reducible assumption | (with_reducible apply Blk.new_at; (first | rfl | (simp; done))) | with_reducible apply Blk.store3 | with_reducible apply Blk.store4 | (with_reducible apply Blk.farp; (first | omega | (simp <;> omega))) | with_reducible apply Blk.allocp | with_reducible apply Blk.drew | with_reducible apply Blk.drewN))) hG2 (by simp <;> omega)
    have cA2 := hA2.cell; have fA2 := hA2.frozen; have lA2 := hA2.lt; have mA2 := Nat.ne_of_gt lA2; have nA2 := Nat.ne_of_lt lA2
    clear hD2' hG2 hA1 cA1 fA1 lA1 mA1 nA1 hD1 n0 n1 n2 hx1
    have HD := Lib.hid hx2
    clear hx2
    go_wp2_with fail
    refine (reduced_d (n := n + 2 + 4) (by repeat (first | with_reducible assumption | (with_reducible apply Hid.out; assumption) | with_reducible apply Drw.drewN | with_reducible apply Drw.drew | with_reducible apply Drw.alloc | (with_reducible refine Drw.setp ?_ ?_ ?_ ?_; (first | omega | (simp <;> omega)); (first | omega | (simp <;> omega)); (first | omega | (simp <;> omega))))) hB (by omega) d2 HD.out).mono ?_
    rintro e v3 ⟨f, rfl, hx3, hD3', hG3⟩
    have hD3 := Lib.hid hD3'; have lG3 := hD3'.lt; have zG3 := hG3.size; (try simp at zG3)
    have hA3 : Blk v3 (w.heap.size) 25 #[.int .i64 0, .int .i64 0, .int .i64 0, .int .i64 0, .int .i64 0, .int .i64 0, .int .i64 0, .int .i64 0] := Blk.grown (by (repeat (first | with_reducible assumption | (with_reducible apply Blk.new_at; (first | rfl | (simp; done))) | with_reducible apply Blk.store3 | with_reducible apply Blk.store4 | (with_reducible apply Blk.farp; (first | omega | (simp <;> omega))) | with_reducible apply Blk.allocp | with_reducible apply Blk.drew | with_reducible apply Blk.drewN))) hG3 (by simp <;> omega)
    have cA3 := hA3.cell; have fA3 := hA3.frozen; have lA3 := hA3.lt; have mA3 := Nat.ne_of_gt lA3; have nA3 := Nat.ne_of_lt lA3
    clear hD3' hG3 hA2 cA2 fA2 lA2 mA2 nA2 hD2
    have HF := Lib.hid hx3
    clear hx3
    have HM := Lib.hid (fun g w (h : g ∈ clsL d2) => cuMake_any d2 f g w (dsc_D7 HD.out) HF.out h)
    go_upto_region 22 with (fail)
    generalize hw4 : v3.alloc (.cells #[.int .i64 f.a, .int .i64 f.b, .int .i64 f.c] 33) = v4
    have hA4 : Blk v4 w.heap.size 25 #[.int .i64 0, .int .i64 0, .int .i64 0, .int .i64 0, .int .i64 0, .int .i64 0, .int .i64 0, .int .i64 0] := by rw [← hw4]; (repeat (first | with_reducible assumption | (with_reducible apply Blk.new_at; (first | rfl | (simp; done))) | with_reducible apply Blk.store3 | with_reducible apply Blk.store4 | (with_reducible apply Blk.farp; (first | omega | (simp <;> omega))) | with_reducible apply Blk.allocp | with_reducible apply Blk.drew | with_reducible apply Blk.drewN))
    have hP4 : Blk v4 v3.heap.size 33 #[.int .i64 f.a, .int .i64 f.b, .int .i64 f.c] := by rw [← hw4]; exact Blk.new_at rfl
    have cA4 := hA4.cell; have fA4 := hA4.frozen; have lA4 := hA4.lt; have mA4 := Nat.ne_of_gt lA4; have nA4 := Nat.ne_of_lt lA4
    have cP4 := hP4.cell; have fP4 := hP4.frozen; have lP4 := hP4.lt; have mP4 := Nat.ne_of_gt lP4; have nP4 := Nat.ne_of_lt lP4
    have hD4 := Lib.hid (show Drw zs v B G (n + 2 + 4 + 2) w v4 by rw [← hw4]; have := hD3.out; exact (by repeat (first | with_reducible assumption | (with_reducible apply Hid.out; assumption) | with_reducible apply Drw.drewN | with_reducible apply Drw.drew | with_reducible apply Drw.alloc | (with_reducible refine Drw.setp ?_ ?_ ?_ ?_; (first | omega | (simp <;> omega)); (first | omega | (simp <;> omega)); (first | omega | (simp <;> omega))))))
    have lG4 := hD4.out.lt
    have z34 : v3.heap.size < v4.heap.size := lP4
    clear hw4 hD3 hA3 cA3 fA3 lA3 mA3 nA3
    go_cut [9] from 60 to 64 (fun s9 wx => ∃ (U : Nat) (k : Cu), s9 = .pointer (some ⟨U, 0, none⟩) ∧ Blk wx U 25 #[.int .i64 k.a, .int .i64 k.b, .int .i64 k.c, .int .i64 k.d, .int .i64 k.e, .int .i64 k.f, .int .i64 k.g, .int .i64 k.h] ∧ G < U ∧ w.heap.size < U ∧ Blk wx w.heap.size 25 #[.int .i64 0, .int .i64 0, .int .i64 0, .int .i64 0, .int .i64 0, .int .i64 0, .int .i64 0, .int .i64 0] ∧ Drw zs v B G (n + 10) w wx)
    case first =>
      clear cA4 fA4
      go_wp2_with fail
      go_region_held3 (fun w' => w'.cell? ⟨v3.heap.size, 0, none⟩ = some (.int .i64 f.a) ∧ w'.cell? ⟨v3.heap.size, 1, none⟩ = some (.int .i64 f.b) ∧ w'.cell? ⟨v3.heap.size, 2, none⟩ = some (.int .i64 f.c)) (first | (go_keep; done) | (go_simp; done)) (first | (go_at_call 49; (with_reducible refine (HMg.out _).mono ?_); rintro e v6 ⟨k, rfl, hB6⟩; have zG6 := hB6.size; (try simp at zG6); have hD6 := Lib.hid (Drw.call (w := _) (n := n + 10) (zs := zs) (v := v) (B := B) (G := G) (w0 := w) (by repeat (first | with_reducible assumption | (with_reducible apply Hid.out; assumption) | with_reducible apply Drw.drewN | with_reducible apply Drw.drew | with_reducible apply Drw.alloc | (with_reducible refine Drw.setp ?_ ?_ ?_ ?_; (first | omega | (simp <;> omega)); (first | omega | (simp <;> omega)); (first | omega | (simp <;> omega))))) hB hB6); have hA6 : Blk v6 w.heap.size 25 #[.int .i64 0, .int .i64 0, .int .i64 0, .int .i64 0, .int .i64 0, .int .i64 0, .int .i64 0, .int .i64 0] := Blk.call (by (repeat (first | with_reducible assumption | (with_reducible apply Blk.new_at; (first | rfl | (simp; done))) | with_reducible apply Blk.store3 | with_reducible apply Blk.store4 | (with_reducible apply Blk.farp; (first | omega | (simp <;> omega))) | with_reducible apply Blk.allocp | with_reducible apply Blk.drew | with_reducible apply Blk.drewN))) hB6; have hP6 : Blk v6 v3.heap.size 33 #[.int .i64 f.a, .int .i64 f.b, .int .i64 f.c] := Blk.call (by (repeat (first | with_reducible assumption | (with_reducible apply Blk.new_at; (first | rfl | (simp; done))) | with_reducible apply Blk.store3 | with_reducible apply Blk.store4 | (with_reducible apply Blk.farp; (first | omega | (simp <;> omega))) | with_reducible apply Blk.allocp | with_reducible apply Blk.drew | with_reducible apply Blk.drewN))) hB6; have cP6 := hP6.cell; have lP6 := hP6.lt; have mP6 := Nat.ne_of_gt lP6; have nP6 := Nat.ne_of_lt lP6; (try (have hS6 : Blk v6 (v4.heap.size) 25 #[.int .i64 0, .int .i64 0, .int .i64 0, .int .i64 0, .int .i64 0, .int .i64 0, .int .i64 0, .int .i64 0] := Blk.call hS5 hB6; have cS6 := hS6.cell; have fS6 := hS6.frozen; have lS6 := hS6.lt)); (try (have hT6 : Blk v6 (v5.heap.size) 25 #[.int .i64 0, .int .i64 0, .int .i64 0, .int .i64 0, .int .i64 0, .int .i64 0, .int .i64 0, .int .i64 0] := Blk.call (by first | exact Blk.new_at rfl | exact Blk.drew (Blk.new_at rfl)) hB6; have cT6 := hT6.cell; have fT6 := hT6.frozen; have lT6 := hT6.lt))) | (go_at_call 57; refine (reduced_d (n := n + 2 + 4 + 2) (by repeat (first | with_reducible assumption | (with_reducible apply Hid.out; assumption) | with_reducible apply Drw.drewN | with_reducible apply Drw.drew | with_reducible apply Drw.alloc | (with_reducible refine Drw.setp ?_ ?_ ?_ ?_; (first | omega | (simp <;> omega)); (first | omega | (simp <;> omega)); (first | omega | (simp <;> omega))))) hB (by omega) d2 HD.out).mono ?_; rintro e v5 ⟨g5, rfl, hg5, hD5', hG5⟩; have hD5 := Lib.hid hD5'; have lG5 := hD5'.lt; have zG5 := hG5.size; (try simp at zG5); have hA5 : Blk v5 w.heap.size 25 #[.int .i64 0, .int .i64 0, .int .i64 0, .int .i64 0, .int .i64 0, .int .i64 0, .int .i64 0, .int .i64 0] := Blk.grown (by (repeat (first | with_reducible assumption | (with_reducible apply Blk.new_at; (first | rfl | (simp; done))) | with_reducible apply Blk.store3 | with_reducible apply Blk.store4 | (with_reducible apply Blk.farp; (first | omega | (simp <;> omega))) | with_reducible apply Blk.allocp | with_reducible apply Blk.drew | with_reducible apply Blk.drewN))) hG5 (by simp <;> omega); have hP5 : Blk v5 v3.heap.size 33 #[.int .i64 f.a, .int .i64 f.b, .int .i64 f.c] := Blk.grown (by (repeat (first | with_reducible assumption | (with_reducible apply Blk.new_at; (first | rfl | (simp; done))) | with_reducible apply Blk.store3 | with_reducible apply Blk.store4 | (with_reducible apply Blk.farp; (first | omega | (simp <;> omega))) | with_reducible apply Blk.allocp | with_reducible apply Blk.drew | with_reducible apply Blk.drewN))) hG5 (by simp <;> omega); have cP5 := hP5.cell; have lP5 := hP5.lt; have mP5 := Nat.ne_of_gt lP5; have nP5 := Nat.ne_of_lt lP5; (try (have hS5 : Blk v5 (v4.heap.size) 25 #[.int .i64 0, .int .i64 0, .int .i64 0, .int .i64 0, .int .i64 0, .int .i64 0, .int .i64 0, .int .i64 0] := Blk.grown (by first | exact Blk.new_at rfl | exact Blk.drew (Blk.new_at rfl)) hG5 (by simp <;> omega); have cS5 := hS5.cell; have fS5 := hS5.frozen; have lS5 := hS5.lt)); have HMg := Lib.hid (fun w => HM.out g5 w hg5); clear hD5' hG5 hg5))
      all_goals
        go_wp2_with fail
        go_meet
        exact ⟨_, k, rfl, by (repeat (first | with_reducible assumption | (with_reducible apply Blk.new_at; (first | rfl | (simp; done))) | with_reducible apply Blk.put8x | with_reducible apply Blk.store3 | (with_reducible apply Blk.farp; (first | omega | (simp <;> omega))) | with_reducible apply Blk.allocp | with_reducible apply Blk.drew | with_reducible apply Blk.drewN)), by omega, by omega, by (repeat (first | with_reducible assumption | (with_reducible apply Blk.new_at; (first | rfl | (simp; done))) | with_reducible apply Blk.put8x | with_reducible apply Blk.store3 | (with_reducible apply Blk.farp; (first | omega | (simp <;> omega))) | with_reducible apply Blk.allocp | with_reducible apply Blk.drew | with_reducible apply Blk.drewN)), Drw.more (n := n + 10) (by repeat (first | with_reducible assumption | (with_reducible apply Hid.out; assumption) | with_reducible apply Drw.drewN | with_reducible apply Drw.drew | with_reducible apply Drw.alloc | (with_reducible refine Drw.setp ?_ ?_ ?_ ?_; (first | omega | (simp <;> omega)); (first | omega | (simp <;> omega)); (first | omega | (simp <;> omega))))) (by omega)⟩
    case rest =>
      obtain ⟨v7, rfl⟩ : ∃ v7 : World, v7 = wc := ⟨_, rfl⟩
      obtain ⟨U, k, rfl, hU, gU, pU, hA, hD7'⟩ := hcut
      have hD7 := Lib.hid hD7'; have lG7 := hD7'.lt
      clear hD7' hD4 HM HF hA4 hP4 cA4 fA4 lA4 mA4 nA4 cP4 fP4 lP4 mP4 nP4
      have hA7 := hA; have cA7 := hA7.cell; have fA7 := hA7.frozen; have lA7 := hA7.lt; have mA7 := Nat.ne_of_gt lA7; have nA7 := Nat.ne_of_lt lA7
      have hU7 := hU; have cU7 := hU7.cell; have fU7 := hU7.frozen; have lU7 := hU7.lt; have mU7 := Nat.ne_of_gt lU7; have nU7 := Nat.ne_of_lt lU7
      clear hA hU
      go_wp2_with fail
      refine (one_d (n := n + 10) (by repeat (first | with_reducible assumption | (with_reducible apply Hid.out; assumption) | with_reducible apply Drw.drewN | with_reducible apply Drw.drew | with_reducible apply Drw.alloc | (with_reducible refine Drw.setp ?_ ?_ ?_ ?_; (first | omega | (simp <;> omega)); (first | omega | (simp <;> omega)); (first | omega | (simp <;> omega))))) hB 2 (by omega) (by omega)).mono ?_
      rintro e v8 ⟨x8, rfl, hx8, hD8', hG8⟩
      have hD8 := Lib.hid hD8'; have lG8 := hD8'.lt; have zG8 := hG8.size; (try simp at zG8)
      have hA8 : Blk v8 (w.heap.size) 25 #[.int .i64 0, .int .i64 0, .int .i64 0, .int .i64 0, .int .i64 0, .int .i64 0, .int .i64 0, .int .i64 0] := Blk.grown (by (repeat (first | with_reducible assumption | (with_reducible apply Blk.new_at; (first | rfl | (simp; done))) | with_reducible apply Blk.store3 | with_reducible apply Blk.store4 | (with_reducible apply Blk.farp; (first | omega | (simp <;> omega))) | with_reducible apply Blk.allocp | with_reducible apply Blk.drew | with_reducible apply Blk.drewN))) hG8 (by simp <;> omega)
      have cA8 := hA8.cell; have fA8 := hA8.frozen; have lA8 := hA8.lt; have mA8 := Nat.ne_of_gt lA8; have nA8 := Nat.ne_of_lt lA8
      have hU8 : Blk v8 (U) 25 #[.int .i64 k.a, .int .i64 k.b, .int .i64 k.c, .int .i64 k.d, .int .i64 k.e, .int .i64 k.f, .int .i64 k.g, .int .i64 k.h] := Blk.grown (by (repeat (first | with_reducible assumption | (with_reducible apply Blk.new_at; (first | rfl | (simp; done))) | with_reducible apply Blk.store3 | with_reducible apply Blk.store4 | (with_reducible apply Blk.farp; (first | omega | (simp <;> omega))) | with_reducible apply Blk.allocp | with_reducible apply Blk.drew | with_reducible apply Blk.drewN))) hG8 (by simp <;> omega)
      have cU8 := hU8.cell; have fU8 := hU8.frozen; have lU8 := hU8.lt; have mU8 := Nat.ne_of_gt lU8; have nU8 := Nat.ne_of_lt lU8
      clear hD8' hG8 hA7 cA7 fA7 lA7 mA7 nA7 hU7 cU7 fU7 lU7 mU7 nU7 hD7
      clear hx8
      cases x8 with
      | false =>
        go_wp2
        exact bodyPost_ret (v := .agg #[.int .i64 k.a, .int .i64 k.b, .int .i64 k.c, .int .i64 k.d, .int .i64 k.e, .int .i64 k.f, .int .i64 k.g, .int .i64 k.h]) (by simp [results, Tryz.results18, go_sem, *]) rfl (hfin.out k _ (Drw.more (n := n + 12) (by repeat (first | with_reducible assumption | (with_reducible apply Hid.out; assumption) | with_reducible apply Drw.drewN | with_reducible apply Drw.drew | with_reducible apply Drw.alloc | (with_reducible refine Drw.setp ?_ ?_ ?_ ?_; (first | omega | (simp <;> omega)); (first | omega | (simp <;> omega)); (first | omega | (simp <;> omega))))) (by omega)))
      | true =>
        go_upto_region 24 with (fail)
        go_cut [10] from 67 to 73 (fun s10 wx => ∃ (Y : Nat) (u : Cu), s10 = .pointer (some ⟨Y, 0, none⟩) ∧ Blk wx Y 25 #[.int .i64 (u).a, .int .i64 (u).b, .int .i64 (u).c, .int .i64 (u).d, .int .i64 (u).e, .int .i64 (u).f, .int .i64 (u).g, .int .i64 (u).h] ∧ G < Y ∧ w.heap.size < Y ∧ Blk wx U 25 #[.int .i64 k.a, .int .i64 k.b, .int .i64 k.c, .int .i64 k.d, .int .i64 k.e, .int .i64 k.f, .int .i64 k.g, .int .i64 k.h] ∧ Blk wx w.heap.size 25 #[.int .i64 0, .int .i64 0, .int .i64 0, .int .i64 0, .int .i64 0, .int .i64 0, .int .i64 0, .int .i64 0] ∧ Drw zs v B G (n + 36) w wx)
        case first =>
          go_wp2_with fail
          go_region_held3 (fun w' => w'.cell? ⟨U, 0, none⟩ = some (.int .i64 k.a) ∧ w'.cell? ⟨U, 1, none⟩ = some (.int .i64 k.b) ∧ w'.cell? ⟨U, 2, none⟩ = some (.int .i64 k.c) ∧ w'.cell? ⟨U, 3, none⟩ = some (.int .i64 k.d) ∧ w'.cell? ⟨U, 4, none⟩ = some (.int .i64 k.e) ∧ w'.cell? ⟨U, 5, none⟩ = some (.int .i64 k.f) ∧ w'.cell? ⟨U, 6, none⟩ = some (.int .i64 k.g) ∧ w'.cell? ⟨U, 7, none⟩ = some (.int .i64 k.h)) (first | (go_keep; done) | (go_simp; done)) (first | (go_at_call 32; (with_reducible refine (HY.out _).mono ?_); rintro e v11 ⟨u, rfl, hB11⟩; have zG11 := hB11.size; (try simp at zG11); have hD11 := Lib.hid (Drw.call (w := _) (n := n + 36) (zs := zs) (v := v) (B := B) (G := G) (w0 := w) (by repeat (first | with_reducible assumption | (with_reducible apply Hid.out; assumption) | with_reducible apply Drw.drewN | with_reducible apply Drw.drew | with_reducible apply Drw.alloc | (with_reducible refine Drw.setp ?_ ?_ ?_ ?_; (first | omega | (simp <;> omega)); (first | omega | (simp <;> omega)); (first | omega | (simp <;> omega))))) hB hB11); have hA11 : Blk v11 (w.heap.size) 25 #[.int .i64 0, .int .i64 0, .int .i64 0, .int .i64 0, .int .i64 0, .int .i64 0, .int .i64 0, .int .i64 0] := Blk.call (by (repeat (first | with_reducible assumption | (with_reducible apply Blk.new_at; (first | rfl | (simp; done))) | with_reducible apply Blk.store3 | with_reducible apply Blk.store4 | (with_reducible apply Blk.farp; (first | omega | (simp <;> omega))) | with_reducible apply Blk.allocp | with_reducible apply Blk.drew | with_reducible apply Blk.drewN))) hB11; have cA11 := hA11.cell; have fA11 := hA11.frozen; have lA11 := hA11.lt; have mA11 := Nat.ne_of_gt lA11; have nA11 := Nat.ne_of_lt lA11; have hU11 : Blk v11 (U) 25 #[.int .i64 k.a, .int .i64 k.b, .int .i64 k.c, .int .i64 k.d, .int .i64 k.e, .int .i64 k.f, .int .i64 k.g, .int .i64 k.h] := Blk.call (by (repeat (first | with_reducible assumption | (with_reducible apply Blk.new_at; (first | rfl | (simp; done))) | with_reducible apply Blk.store3 | with_reducible apply Blk.store4 | (with_reducible apply Blk.farp; (first | omega | (simp <;> omega))) | with_reducible apply Blk.allocp | with_reducible apply Blk.drew | with_reducible apply Blk.drewN))) hB11; have cU11 := hU11.cell; have fU11 := hU11.frozen; have lU11 := hU11.lt; have mU11 := Nat.ne_of_gt lU11; have nU11 := Nat.ne_of_lt lU11; (try (have hS11 : Blk v11 (v8.heap.size) 25 #[.int .i64 0, .int .i64 0, .int .i64 0, .int .i64 0, .int .i64 0, .int .i64 0, .int .i64 0, .int .i64 0] := Blk.call hS10 hB11; have cS11 := hS11.cell; have fS11 := hS11.frozen; have lS11 := hS11.lt; have mS11 := Nat.ne_of_gt lS11; have nS11 := Nat.ne_of_lt lS11)); (try (have hT11 : Blk v11 (v9.heap.size) 25 #[.int .i64 0, .int .i64 0, .int .i64 0, .int .i64 0, .int .i64 0, .int .i64 0, .int .i64 0, .int .i64 0] := Blk.call hT10 hB11; have cT11 := hT11.cell; have fT11 := hT11.frozen; have lT11 := hT11.lt; have mT11 := Nat.ne_of_gt lT11; have nT11 := Nat.ne_of_lt lT11)); (try (have hV11 : Blk v11 (v10.heap.size) 25 #[.int .i64 0, .int .i64 0, .int .i64 0, .int .i64 0, .int .i64 0, .int .i64 0, .int .i64 0, .int .i64 0] := Blk.call (by first | exact Blk.new_at rfl | exact Blk.drew (Blk.new_at rfl)) hB11; have cV11 := hV11.cell; have fV11 := hV11.frozen; have lV11 := hV11.lt; have mV11 := Nat.ne_of_gt lV11; have nV11 := Nat.ne_of_lt lV11)); have HI := Lib.hid (fun w => cuIn_any u w)) | (go_at_call 22; refine (proper_d (n := n + 14) (by repeat (first | with_reducible assumption | (with_reducible apply Hid.out; assumption) | with_reducible apply Drw.drewN | with_reducible apply Drw.drew | with_reducible apply Drw.alloc | (with_reducible refine Drw.setp ?_ ?_ ?_ ?_; (first | omega | (simp <;> omega)); (first | omega | (simp <;> omega)); (first | omega | (simp <;> omega))))) hB (by omega)).mono ?_; rintro e v10 ⟨⟨m1, m2, m3, m4⟩, rfl, -, hD10', hG10⟩; have hD10 := Lib.hid hD10'; have lG10 := hD10'.lt; have zG10 := hG10.size; (try simp at zG10); have hA10 : Blk v10 (w.heap.size) 25 #[.int .i64 0, .int .i64 0, .int .i64 0, .int .i64 0, .int .i64 0, .int .i64 0, .int .i64 0, .int .i64 0] := Blk.grown (by (repeat (first | with_reducible assumption | (with_reducible apply Blk.new_at; (first | rfl | (simp; done))) | with_reducible apply Blk.store3 | with_reducible apply Blk.store4 | (with_reducible apply Blk.farp; (first | omega | (simp <;> omega))) | with_reducible apply Blk.allocp | with_reducible apply Blk.drew | with_reducible apply Blk.drewN))) hG10 (by simp <;> omega); have cA10 := hA10.cell; have fA10 := hA10.frozen; have lA10 := hA10.lt; have mA10 := Nat.ne_of_gt lA10; have nA10 := Nat.ne_of_lt lA10; have hU10 : Blk v10 (U) 25 #[.int .i64 k.a, .int .i64 k.b, .int .i64 k.c, .int .i64 k.d, .int .i64 k.e, .int .i64 k.f, .int .i64 k.g, .int .i64 k.h] := Blk.grown (by (repeat (first | with_reducible assumption | (with_reducible apply Blk.new_at; (first | rfl | (simp; done))) | with_reducible apply Blk.store3 | with_reducible apply Blk.store4 | (with_reducible apply Blk.farp; (first | omega | (simp <;> omega))) | with_reducible apply Blk.allocp | with_reducible apply Blk.drew | with_reducible apply Blk.drewN))) hG10 (by simp <;> omega); have cU10 := hU10.cell; have fU10 := hU10.frozen; have lU10 := hU10.lt; have mU10 := Nat.ne_of_gt lU10; have nU10 := Nat.ne_of_lt lU10; (try (have hS10 : Blk v10 (v8.heap.size) 25 #[.int .i64 0, .int .i64 0, .int .i64 0, .int .i64 0, .int .i64 0, .int .i64 0, .int .i64 0, .int .i64 0] := Blk.grown hS9 hG10 (by simp <;> omega); have cS10 := hS10.cell; have fS10 := hS10.frozen; have lS10 := hS10.lt; have mS10 := Nat.ne_of_gt lS10; have nS10 := Nat.ne_of_lt lS10)); (try (have hT10 : Blk v10 (v9.heap.size) 25 #[.int .i64 0, .int .i64 0, .int .i64 0, .int .i64 0, .int .i64 0, .int .i64 0, .int .i64 0, .int .i64 0] := Blk.grown (by first | exact Blk.new_at rfl | exact Blk.drew (Blk.new_at rfl)) hG10 (by simp <;> omega); have cT10 := hT10.cell; have fT10 := hT10.frozen; have lT10 := hT10.lt; have mT10 := Nat.ne_of_gt lT10; have nT10 := Nat.ne_of_lt lT10)); have HY := Lib.hid (fun w => HX.out ⟨m1, m2, m3, m4⟩ w); clear hD10' hG10) | (go_at_call 53; refine (pick_d (n := n + 12) (by repeat (first | with_reducible assumption | (with_reducible apply Hid.out; assumption) | with_reducible apply Drw.drewN | with_reducible apply Drw.drew | with_reducible apply Drw.alloc | (with_reducible refine Drw.setp ?_ ?_ ?_ ?_; (first | omega | (simp <;> omega)); (first | omega | (simp <;> omega)); (first | omega | (simp <;> omega))))) hB 3 (by omega) (by omega)).mono ?_; rintro e v9 ⟨x9, rfl, hx9, hD9', hG9⟩; have hD9 := Lib.hid hD9'; have lG9 := hD9'.lt; have zG9 := hG9.size; (try simp at zG9); have hA9 : Blk v9 (w.heap.size) 25 #[.int .i64 0, .int .i64 0, .int .i64 0, .int .i64 0, .int .i64 0, .int .i64 0, .int .i64 0, .int .i64 0] := Blk.grown (by (repeat (first | with_reducible assumption | (with_reducible apply Blk.new_at; (first | rfl | (simp; done))) | with_reducible apply Blk.store3 | with_reducible apply Blk.store4 | (with_reducible apply Blk.farp; (first | omega | (simp <;> omega))) | with_reducible apply Blk.allocp | with_reducible apply Blk.drew | with_reducible apply Blk.drewN))) hG9 (by simp <;> omega); have cA9 := hA9.cell; have fA9 := hA9.frozen; have lA9 := hA9.lt; have mA9 := Nat.ne_of_gt lA9; have nA9 := Nat.ne_of_lt lA9; have hU9 : Blk v9 (U) 25 #[.int .i64 k.a, .int .i64 k.b, .int .i64 k.c, .int .i64 k.d, .int .i64 k.e, .int .i64 k.f, .int .i64 k.g, .int .i64 k.h] := Blk.grown (by (repeat (first | with_reducible assumption | (with_reducible apply Blk.new_at; (first | rfl | (simp; done))) | with_reducible apply Blk.store3 | with_reducible apply Blk.store4 | (with_reducible apply Blk.farp; (first | omega | (simp <;> omega))) | with_reducible apply Blk.allocp | with_reducible apply Blk.drew | with_reducible apply Blk.drewN))) hG9 (by simp <;> omega); have cU9 := hU9.cell; have fU9 := hU9.frozen; have lU9 := hU9.lt; have mU9 := Nat.ne_of_gt lU9; have nU9 := Nat.ne_of_lt lU9; (try (have hS9 : Blk v9 (v8.heap.size) 25 #[.int .i64 0, .int .i64 0, .int .i64 0, .int .i64 0, .int .i64 0, .int .i64 0, .int .i64 0, .int .i64 0] := Blk.grown (by first | exact Blk.new_at rfl | exact Blk.drew (Blk.new_at rfl)) hG9 (by simp <;> omega); have cS9 := hS9.cell; have fS9 := hS9.frozen; have lS9 := hS9.lt; have mS9 := Nat.ne_of_gt lS9; have nS9 := Nat.ne_of_lt lS9)); have i9 : IntKind.i64.wrap (1 + x9) = 1 + x9 := IntWalk.i64_in _ (by omega); have HX := Lib.hid (fun m w => cuActX k m x9 w (by omega)); clear hD9' hG9 hx9))
          all_goals
            go_wp2_with fail
            go_meet
            exact ⟨_, u, rfl, by (repeat (first | with_reducible assumption | (with_reducible apply Blk.new_at; (first | rfl | (simp; done))) | with_reducible apply Blk.put8x | with_reducible apply Blk.store3 | (with_reducible apply Blk.farp; (first | omega | (simp <;> omega))) | with_reducible apply Blk.allocp | with_reducible apply Blk.drew | with_reducible apply Blk.drewN)), by omega, by omega, by (repeat (first | with_reducible assumption | (with_reducible apply Blk.new_at; (first | rfl | (simp; done))) | with_reducible apply Blk.put8x | with_reducible apply Blk.store3 | (with_reducible apply Blk.farp; (first | omega | (simp <;> omega))) | with_reducible apply Blk.allocp | with_reducible apply Blk.drew | with_reducible apply Blk.drewN)), by (repeat (first | with_reducible assumption | (with_reducible apply Blk.new_at; (first | rfl | (simp; done))) | with_reducible apply Blk.put8x | with_reducible apply Blk.store3 | (with_reducible apply Blk.farp; (first | omega | (simp <;> omega))) | with_reducible apply Blk.allocp | with_reducible apply Blk.drew | with_reducible apply Blk.drewN)), Drw.more (n := n + 36) (by repeat (first | with_reducible assumption | (with_reducible apply Hid.out; assumption) | with_reducible apply Drw.drewN | with_reducible apply Drw.drew | with_reducible apply Drw.alloc | (with_reducible refine Drw.setp ?_ ?_ ?_ ?_; (first | omega | (simp <;> omega)); (first | omega | (simp <;> omega)); (first | omega | (simp <;> omega))))) (by omega)⟩
        case rest =>
          obtain ⟨v12, rfl⟩ : ∃ v12 : World, v12 = wc := ⟨_, rfl⟩
          obtain ⟨Y, u, rfl, hY, gY, pY, hU, hA, hD12'⟩ := hcut
          have hD12 := Lib.hid hD12'; have lG12 := hD12'.lt
          clear hD12' hA8 cA8 fA8 lA8 mA8 nA8 hU8 cU8 fU8 lU8 mU8 nU8 hD8
          have hA12 := hA; have cA12 := hA12.cell; have fA12 := hA12.frozen; have lA12 := hA12.lt; have mA12 := Nat.ne_of_gt lA12; have nA12 := Nat.ne_of_lt lA12
          have hU12 := hU; have cU12 := hU12.cell; have fU12 := hU12.frozen; have lU12 := hU12.lt; have mU12 := Nat.ne_of_gt lU12; have nU12 := Nat.ne_of_lt lU12
          have hY12 := hY; have cY12 := hY12.cell; have fY12 := hY12.frozen; have lY12 := hY12.lt; have mY12 := Nat.ne_of_gt lY12; have nY12 := Nat.ne_of_lt lY12
          clear hA hU hY
          have HI := Lib.hid (fun w => cuIn_any u w)
          go_wp2_with fail
          refine (HI.out _).mono ?_
          rintro e v13 ⟨rfl, hB13⟩
          have zG13 := hB13.size; (try simp at zG13)
          have hD13 := Lib.hid (Drw.call (w := _) (n := n + 36) (zs := zs) (v := v) (B := B) (G := G) (w0 := w) (by repeat (first | with_reducible assumption | (with_reducible apply Hid.out; assumption) | with_reducible apply Drw.drewN | with_reducible apply Drw.drew | with_reducible apply Drw.alloc | (with_reducible refine Drw.setp ?_ ?_ ?_ ?_; (first | omega | (simp <;> omega)); (first | omega | (simp <;> omega)); (first | omega | (simp <;> omega))))) hB hB13); have lG13 := hD13.out.lt
          have hA13 : Blk v13 (w.heap.size) 25 #[.int .i64 0, .int .i64 0, .int .i64 0, .int .i64 0, .int .i64 0, .int .i64 0, .int .i64 0, .int .i64 0] := Blk.call (by (repeat (first | with_reducible assumption | (with_reducible apply Blk.new_at; (first | rfl | (simp; done))) | with_reducible apply Blk.store3 | with_reducible apply Blk.store4 | (with_reducible apply Blk.farp; (first | omega | (simp <;> omega))) | with_reducible apply Blk.allocp | with_reducible apply Blk.drew | with_reducible apply Blk.drewN))) hB13
          have cA13 := hA13.cell; have fA13 := hA13.frozen; have lA13 := hA13.lt; have mA13 := Nat.ne_of_gt lA13; have nA13 := Nat.ne_of_lt lA13
          have hU13 : Blk v13 (U) 25 #[.int .i64 k.a, .int .i64 k.b, .int .i64 k.c, .int .i64 k.d, .int .i64 k.e, .int .i64 k.f, .int .i64 k.g, .int .i64 k.h] := Blk.call (by (repeat (first | with_reducible assumption | (with_reducible apply Blk.new_at; (first | rfl | (simp; done))) | with_reducible apply Blk.store3 | with_reducible apply Blk.store4 | (with_reducible apply Blk.farp; (first | omega | (simp <;> omega))) | with_reducible apply Blk.allocp | with_reducible apply Blk.drew | with_reducible apply Blk.drewN))) hB13
          have cU13 := hU13.cell; have fU13 := hU13.frozen; have lU13 := hU13.lt; have mU13 := Nat.ne_of_gt lU13; have nU13 := Nat.ne_of_lt lU13
          have hY13 : Blk v13 (Y) 25 #[.int .i64 u.a, .int .i64 u.b, .int .i64 u.c, .int .i64 u.d, .int .i64 u.e, .int .i64 u.f, .int .i64 u.g, .int .i64 u.h] := Blk.call (by (repeat (first | with_reducible assumption | (with_reducible apply Blk.new_at; (first | rfl | (simp; done))) | with_reducible apply Blk.store3 | with_reducible apply Blk.store4 | (with_reducible apply Blk.farp; (first | omega | (simp <;> omega))) | with_reducible apply Blk.allocp | with_reducible apply Blk.drew | with_reducible apply Blk.drewN))) hB13
          have cY13 := hY13.cell; have fY13 := hY13.frozen; have lY13 := hY13.lt; have mY13 := Nat.ne_of_gt lY13; have nY13 := Nat.ne_of_lt lY13
          clear hB13 hA12 cA12 fA12 lA12 mA12 nA12 hU12 cU12 fU12 lU12 mU12 nU12 hY12 cY12 fY12 lY12 mY12 nY12 hD12
          cases cuB u with
          | false =>
            go_wp2
            exact bodyPost_ret (v := .agg #[.int .i64 k.a, .int .i64 k.b, .int .i64 k.c, .int .i64 k.d, .int .i64 k.e, .int .i64 k.f, .int .i64 k.g, .int .i64 k.h]) (by simp [results, Tryz.results18, go_sem, *]) rfl (hfin.out k _ (Drw.more (n := n + 36) (by repeat (first | with_reducible assumption | (with_reducible apply Hid.out; assumption) | with_reducible apply Drw.drewN | with_reducible apply Drw.drew | with_reducible apply Drw.alloc | (with_reducible refine Drw.setp ?_ ?_ ?_ ?_; (first | omega | (simp <;> omega)); (first | omega | (simp <;> omega)); (first | omega | (simp <;> omega))))) (by omega)))
          | true =>
            go_wp2
            exact bodyPost_ret (v := .agg #[.int .i64 u.a, .int .i64 u.b, .int .i64 u.c, .int .i64 u.d, .int .i64 u.e, .int .i64 u.f, .int .i64 u.g, .int .i64 u.h]) (by simp [results, Tryz.results18, go_sem, *]) rfl (hfin.out u _ (Drw.more (n := n + 36) (by repeat (first | with_reducible assumption | (with_reducible apply Hid.out; assumption) | with_reducible apply Drw.drewN | with_reducible apply Drw.drew | with_reducible apply Drw.alloc | (with_reducible refine Drw.setp ?_ ?_ ?_ ?_; (first | omega | (simp <;> omega)); (first | omega | (simp <;> omega)); (first | omega | (simp <;> omega))))) (by omega)))
end
end Go.Proofs.YtlcegkafagdcjaaGreatDoor
