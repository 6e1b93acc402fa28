/- Parts P1 P2 U1 U2 U3 U4 U5 U7 laid together by tp.py. -/
import Derived.Test.YtlcegkafagdcjaaGreatDoorCA
import Derived.Test.YtlcegkafagdcjaaGreatDoorMM
import Derived.Deep.RegionHeld3
namespace Go.Proofs.YtlcegkafagdcjaaGreatDoor
section
open Go.RowKit

/-- A good point. -/
def Good (a b c n x y : Int) : Prop := Int.gcd x y = 1 ∧ Int.gcd (atF a b c x y) n = 1
/-- What comes back: the first good point. -/
def RetPt (G : Int → Int → Prop) (w : World) (e : Ending) (w' : World) : Prop := ∃ x y, e = .returned (.tuple #[.int .i64 x, .int .i64 y]) ∧ MinPt G x y ∧ Below w.heap.size w w'
def Fp1 (G : Int → Int → Prop) (S : Int) (a b c : Int) (w : World) (s : Value) (wr : World) : Prop :=
  ∃ i : Int, s = .int .i64 i ∧ 0 ≤ i ∧ i ≤ S ∧ Hid (NoB G i 0 0) ∧ Blk wr w.heap.size 33 #[.int .i64 a, .int .i64 b, .int .i64 c] ∧ Below w.heap.size w wr
def Fp2 (G : Int → Int → Prop) (i : Int) (a b c : Int) (w : World) (s : Value) (wr : World) : Prop :=
  ∃ x : Int, s = .int .i64 x ∧ 0 ≤ x ∧ x ≤ i + 1 ∧ Hid (NoB G i x 0) ∧ Blk wr w.heap.size 33 #[.int .i64 a, .int .i64 b, .int .i64 c] ∧ Below w.heap.size w wr
def Fp3 (G : Int → Int → Prop) (i x : Int) (a b c : Int) (w : World) (s : Value) (wr : World) : Prop :=
  ∃ y : Int, s = .int .i64 y ∧ 0 ≤ y ∧ y ≤ i + 1 ∧ Hid (NoB G i x y) ∧ Blk wr w.heap.size 33 #[.int .i64 a, .int .i64 b, .int .i64 c] ∧ Below w.heap.size w wr
theorem at_small {a b c x y : Int} (ha : -5000 ≤ a ∧ a ≤ 5000) (hb : -5000 ≤ b ∧ b ≤ 5000) (hc : -5000 ≤ c ∧ c ≤ 5000) (hx : 0 ≤ x ∧ x ≤ 5000) (hy : 0 ≤ y ∧ y ≤ 5000) : AtOK a b c x y := by
  have k := fun (u : Int) (hu : -5000 ≤ u ∧ u ≤ 5000) (z : Int) (hz : 0 ≤ z ∧ z ≤ 5000) => mul_bd (A := 5000) (X := 5000) hu.1 hu.2 (show -5000 ≤ z by omega) hz.2
  have k2 := fun (u : Int) (hu : -25000000 ≤ u ∧ u ≤ 25000000) (z : Int) (hz : 0 ≤ z ∧ z ≤ 5000) => mul_bd (A := 25000000) (X := 5000) hu.1 hu.2 (show -5000 ≤ z by omega) hz.2
  have a1 := k a ha x hx
  have b1 := k b hb x hx
  have c1 := k c hc y hy
  have a2 := k2 (a * x) (by omega) x hx
  have b2 := k2 (b * x) (by omega) y hy
  have c2 := k2 (c * y) (by omega) y hy
  exact ⟨⟨by omega, by omega⟩, ⟨by omega, by omega⟩, ⟨by omega, by omega⟩, ⟨by omega, by omega⟩, ⟨by omega, by omega⟩, ⟨by omega, by omega⟩⟩
theorem at_bd {a b c x y : Int} (ha : -5000 ≤ a ∧ a ≤ 5000) (hb : -5000 ≤ b ∧ b ≤ 5000) (hc : -5000 ≤ c ∧ c ≤ 5000) (hx : 0 ≤ x ∧ x ≤ 5000) (hy : 0 ≤ y ∧ y ≤ 5000) : -400000000000 ≤ atF a b c x y ∧ atF a b c x y ≤ 400000000000 := by
  have k := fun (u : Int) (hu : -5000 ≤ u ∧ u ≤ 5000) (z : Int) (hz : 0 ≤ z ∧ z ≤ 5000) => mul_bd (A := 5000) (X := 5000) hu.1 hu.2 (show -5000 ≤ z by omega) hz.2
  have k2 := fun (u : Int) (hu : -25000000 ≤ u ∧ u ≤ 25000000) (z : Int) (hz : 0 ≤ z ∧ z ≤ 5000) => mul_bd (A := 25000000) (X := 5000) hu.1 hu.2 (show -5000 ≤ z by omega) hz.2
  have a1 := k a ha x hx
  have b1 := k b hb x hx
  have c1 := k c hc y hy
  have a2 := k2 (a * x) (by omega) x hx
  have b2 := k2 (b * x) (by omega) y hy
  have c2 := k2 (c * y) (by omega) y hy
  unfold atF; omega

set_option maxRecDepth 100000 in
set_option maxHeartbeats 1600000 in
theorem firstPoint_any (a b c n X Y S : Int) (w : World) (ha : -5000 ≤ a ∧ a ≤ 5000) (hb : -5000 ≤ b ∧ b ≤ 5000) (hc : -5000 ≤ c ∧ c ≤ 5000) (hn : -5000 ≤ n ∧ n ≤ 5000)
    (hX : 0 ≤ X ∧ X ≤ S) (hY : 0 ≤ Y ∧ Y ≤ S) (hS : S ≤ 4000) (hg : Good a b c n X Y) :
    Calls Tryz.prog 85 #[.agg #[.int .i64 a, .int .i64 b, .int .i64 c], .int .i64 n] w (RetPt (Good a b c n) w) := by
  have Hle := Lib.hid (fun (i x y : Int) (h : NoB (Good a b c n) i x y) => h.le hX.1 hY.1 hg)
  have Hg := Lib.hid hg
  clear hg
  obtain ⟨X0, X1⟩ := hX
  obtain ⟨Y0, Y1⟩ := hY
  go_enter Tryz.func85, Tryz.ntmps85
  go_wp2
  go_loopw [6] (fun s wr => Fp1 (Good a b c n) S a b c w s wr) (fun s _ => (5000 - intOf s).toNat)
  case atStart => exact ⟨0, rfl, by omega, by omega, Lib.hid (NoB.zero _), by (repeat (first | with_reducible assumption | (with_reducible apply Blk.new_at; (first | rfl | (simp; done))) | with_reducible apply Blk.store3 | with_reducible apply Blk.store4 | (with_reducible apply Blk.farp; (first | omega | (simp <;> omega))) | with_reducible apply Blk.allocp | with_reducible apply Blk.drew | with_reducible apply Blk.drewN)), (by repeat (first | with_reducible exact Below.refl _ _ | with_reducible assumption | with_reducible apply Below.drew | with_reducible apply below_drewN | (with_reducible apply below_setp; (first | omega | (simp <;> omega))) | (with_reducible apply below_allocp; (first | omega | (simp <;> omega))) | (with_reducible refine below_viap (by assumption) ?_ ?_; (first | omega | (simp <;> omega)))))⟩
  case round =>
    obtain ⟨i, rfl, hi0, hi1, hno, hblk, hbel⟩ := hrel
    go_wp2
    obtain ⟨wo, rfl⟩ : ∃ wo : World, wo = wr := ⟨_, rfl⟩
    go_loopw [7] (fun s wx => Fp2 (Good a b c n) i a b c w s wx) (fun s _ => (5010 - intOf s).toNat)
    case atStart => exact ⟨0, rfl, by omega, by omega, hno, hblk, hbel⟩
    case round =>
      clear hno hblk hbel
      obtain ⟨x, rfl, hx0, hx1, hno, hblk, hbel⟩ := hrel
      by_cases hxi : x ≤ i
      · go_wp2
        obtain ⟨wp, rfl⟩ : ∃ wp : World, wp = wr := ⟨_, rfl⟩
        go_loopw [8] (fun s wx => Fp3 (Good a b c n) i x a b c w s wx) (fun s _ => (5020 - intOf s).toNat)
        case atStart => exact ⟨0, rfl, by omega, by omega, hno, hblk, hbel⟩
        case round =>
          clear hno hblk hbel
          obtain ⟨y, rfl, hy0, hy1, hno, hblk, hbel⟩ := hrel
          by_cases hyi : y ≤ i
          · have hok := at_small ha hb hc (x := x) (y := y) (by omega) (by omega)
            obtain ⟨hv1, hv2⟩ := at_bd ha hb hc (x := x) (y := y) (by omega) (by omega)
            have hy0' : 0 ≤ x → 0 ≤ x := id
            have hC0 := hblk.cell; have hF0 := hblk.frozen
            have hz := hblk.lt
            by_cases hxy : y ≤ x
            · by_cases hm : x = i
              · have e1 : (x == i) = true := by rw [beq_iff_eq]; exact hm
                have e0 : max x y = i := by omega
                by_cases hg1 : Int.gcd x y = 1
                · have e2 : ((Int.gcd x y : Int) == 1) = true := by rw [hg1]; rfl
                  by_cases hg2 : Int.gcd (atF a b c x y) n = 1
                  · have e3 : ((Int.gcd (atF a b c x y) n : Int) == 1) = true := by rw [hg2]; rfl
                    have hres : Hid (MinPt (Good a b c n) x y) := Lib.hid ⟨hy0' hx0, hy0, ⟨hg1, hg2⟩, by rw [e0]; exact hno.out⟩
                    clear hm hg1 hg2 e0 hno
                    go_wp2_with (first | (fail) | (go_at_call 115; (with_reducible refine (gcd_any _ _ _ (by omega) (by omega) (by omega) (by omega)).mono ?_); rintro e v ⟨rfl, nq, rfl⟩) | (go_at_call 69; (with_reducible refine (at_any a b c x y _ hok).mono ?_); rintro e v1 ⟨rfl, hB1⟩; have hC1 := (calm_cells hB1).1; have hF1 := (calm_cells hB1).2))
                    go_ret2
                    exact ⟨_, _, rfl, hres.out, (by repeat (first | with_reducible exact Below.refl _ _ | with_reducible assumption | with_reducible apply Below.drew | with_reducible apply below_drewN | (with_reducible apply below_setp; (first | omega | (simp <;> omega))) | (with_reducible apply below_allocp; (first | omega | (simp <;> omega))) | (with_reducible refine below_viap (by assumption) ?_ ?_; (first | omega | (simp <;> omega)))))⟩
                  · have e3 : ((Int.gcd (atF a b c x y) n : Int) == 1) = false := by rw [beq_eq_false_iff_ne]; omega
                    have hnx := Lib.hid (hno.out.y fun _ h => hg2 h.2)
                    clear hm hg1 hg2 e0 hno
                    go_wp2_with (first | (fail) | (go_at_call 115; (with_reducible refine (gcd_any _ _ _ (by omega) (by omega) (by omega) (by omega)).mono ?_); rintro e v ⟨rfl, nq, rfl⟩) | (go_at_call 69; (with_reducible refine (at_any a b c x y _ hok).mono ?_); rintro e v1 ⟨rfl, hB1⟩; have hC1 := (calm_cells hB1).1; have hF1 := (calm_cells hB1).2))
                    go_roundw
                    case rel => exact ⟨y + 1, rfl, by omega, by omega, hnx, by exact Blk.below (w := wr) (B := wr.heap.size) hblk (by repeat (first | with_reducible exact Below.refl _ _ | with_reducible assumption | with_reducible apply Below.drew | with_reducible apply below_drewN | (with_reducible apply below_setp; (first | omega | (simp <;> omega))) | (with_reducible apply below_allocp; (first | omega | (simp <;> omega))) | (with_reducible refine below_viap (by assumption) ?_ ?_; (first | omega | (simp <;> omega))))) hblk.lt, (by repeat (first | with_reducible exact Below.refl _ _ | with_reducible assumption | with_reducible apply Below.drew | with_reducible apply below_drewN | (with_reducible apply below_setp; (first | omega | (simp <;> omega))) | (with_reducible apply below_allocp; (first | omega | (simp <;> omega))) | (with_reducible refine below_viap (by assumption) ?_ ?_; (first | omega | (simp <;> omega)))))⟩
                    case measure => simp [intOf]; omega
                · have e2 : ((Int.gcd x y : Int) == 1) = false := by rw [beq_eq_false_iff_ne]; omega
                  have hnx := Lib.hid (hno.out.y fun _ h => hg1 h.1)
                  clear hm hg1 e0 hno
                  go_wp2_with (first | (fail) | (go_at_call 115; (with_reducible refine (gcd_any _ _ _ (by omega) (by omega) (by omega) (by omega)).mono ?_); rintro e v ⟨rfl, nq, rfl⟩))
                  go_roundw
                  case rel => exact ⟨y + 1, rfl, by omega, by omega, hnx, by exact Blk.below (w := wr) (B := wr.heap.size) hblk (by repeat (first | with_reducible exact Below.refl _ _ | with_reducible assumption | with_reducible apply Below.drew | with_reducible apply below_drewN | (with_reducible apply below_setp; (first | omega | (simp <;> omega))) | (with_reducible apply below_allocp; (first | omega | (simp <;> omega))) | (with_reducible refine below_viap (by assumption) ?_ ?_; (first | omega | (simp <;> omega))))) hblk.lt, (by repeat (first | with_reducible exact Below.refl _ _ | with_reducible assumption | with_reducible apply Below.drew | with_reducible apply below_drewN | (with_reducible apply below_setp; (first | omega | (simp <;> omega))) | (with_reducible apply below_allocp; (first | omega | (simp <;> omega))) | (with_reducible refine below_viap (by assumption) ?_ ?_; (first | omega | (simp <;> omega)))))⟩
                  case measure => simp [intOf]; omega
              · have e1 : (x == i) = false := by rw [beq_eq_false_iff_ne]; exact hm
                have hnx := Lib.hid (hno.out.y fun h => absurd h (by omega))
                clear hm hno
                go_wp2_with ((fail))
                go_roundw
                case rel => exact ⟨y + 1, rfl, by omega, by omega, hnx, hblk, hbel⟩
                case measure => simp [intOf]; omega
            · by_cases hm : y = i
              · have e1 : (y == i) = true := by rw [beq_iff_eq]; exact hm
                have e0 : max x y = i := by omega
                by_cases hg1 : Int.gcd x y = 1
                · have e2 : ((Int.gcd x y : Int) == 1) = true := by rw [hg1]; rfl
                  by_cases hg2 : Int.gcd (atF a b c x y) n = 1
                  · have e3 : ((Int.gcd (atF a b c x y) n : Int) == 1) = true := by rw [hg2]; rfl
                    have hres : Hid (MinPt (Good a b c n) x y) := Lib.hid ⟨hy0' hx0, hy0, ⟨hg1, hg2⟩, by rw [e0]; exact hno.out⟩
                    clear hm hg1 hg2 e0 hno
                    go_wp2_with (first | (fail) | (go_at_call 115; (with_reducible refine (gcd_any _ _ _ (by omega) (by omega) (by omega) (by omega)).mono ?_); rintro e v ⟨rfl, nq, rfl⟩) | (go_at_call 69; (with_reducible refine (at_any a b c x y _ hok).mono ?_); rintro e v1 ⟨rfl, hB1⟩; have hC1 := (calm_cells hB1).1; have hF1 := (calm_cells hB1).2))
                    go_ret2
                    exact ⟨_, _, rfl, hres.out, (by repeat (first | with_reducible exact Below.refl _ _ | with_reducible assumption | with_reducible apply Below.drew | with_reducible apply below_drewN | (with_reducible apply below_setp; (first | omega | (simp <;> omega))) | (with_reducible apply below_allocp; (first | omega | (simp <;> omega))) | (with_reducible refine below_viap (by assumption) ?_ ?_; (first | omega | (simp <;> omega)))))⟩
                  · have e3 : ((Int.gcd (atF a b c x y) n : Int) == 1) = false := by rw [beq_eq_false_iff_ne]; omega
                    have hnx := Lib.hid (hno.out.y fun _ h => hg2 h.2)
                    clear hm hg1 hg2 e0 hno
                    go_wp2_with (first | (fail) | (go_at_call 115; (with_reducible refine (gcd_any _ _ _ (by omega) (by omega) (by omega) (by omega)).mono ?_); rintro e v ⟨rfl, nq, rfl⟩) | (go_at_call 69; (with_reducible refine (at_any a b c x y _ hok).mono ?_); rintro e v1 ⟨rfl, hB1⟩; have hC1 := (calm_cells hB1).1; have hF1 := (calm_cells hB1).2))
                    go_roundw
                    case rel => exact ⟨y + 1, rfl, by omega, by omega, hnx, by exact Blk.below (w := wr) (B := wr.heap.size) hblk (by repeat (first | with_reducible exact Below.refl _ _ | with_reducible assumption | with_reducible apply Below.drew | with_reducible apply below_drewN | (with_reducible apply below_setp; (first | omega | (simp <;> omega))) | (with_reducible apply below_allocp; (first | omega | (simp <;> omega))) | (with_reducible refine below_viap (by assumption) ?_ ?_; (first | omega | (simp <;> omega))))) hblk.lt, (by repeat (first | with_reducible exact Below.refl _ _ | with_reducible assumption | with_reducible apply Below.drew | with_reducible apply below_drewN | (with_reducible apply below_setp; (first | omega | (simp <;> omega))) | (with_reducible apply below_allocp; (first | omega | (simp <;> omega))) | (with_reducible refine below_viap (by assumption) ?_ ?_; (first | omega | (simp <;> omega)))))⟩
                    case measure => simp [intOf]; omega
                · have e2 : ((Int.gcd x y : Int) == 1) = false := by rw [beq_eq_false_iff_ne]; omega
                  have hnx := Lib.hid (hno.out.y fun _ h => hg1 h.1)
                  clear hm hg1 e0 hno
                  go_wp2_with (first | (fail) | (go_at_call 115; (with_reducible refine (gcd_any _ _ _ (by omega) (by omega) (by omega) (by omega)).mono ?_); rintro e v ⟨rfl, nq, rfl⟩))
                  go_roundw
                  case rel => exact ⟨y + 1, rfl, by omega, by omega, hnx, by exact Blk.below (w := wr) (B := wr.heap.size) hblk (by repeat (first | with_reducible exact Below.refl _ _ | with_reducible assumption | with_reducible apply Below.drew | with_reducible apply below_drewN | (with_reducible apply below_setp; (first | omega | (simp <;> omega))) | (with_reducible apply below_allocp; (first | omega | (simp <;> omega))) | (with_reducible refine below_viap (by assumption) ?_ ?_; (first | omega | (simp <;> omega))))) hblk.lt, (by repeat (first | with_reducible exact Below.refl _ _ | with_reducible assumption | with_reducible apply Below.drew | with_reducible apply below_drewN | (with_reducible apply below_setp; (first | omega | (simp <;> omega))) | (with_reducible apply below_allocp; (first | omega | (simp <;> omega))) | (with_reducible refine below_viap (by assumption) ?_ ?_; (first | omega | (simp <;> omega)))))⟩
                  case measure => simp [intOf]; omega
              · have e1 : (y == i) = false := by rw [beq_eq_false_iff_ne]; exact hm
                have hnx := Lib.hid (hno.out.y fun h => absurd h (by omega))
                clear hm hno
                go_wp2_with ((fail))
                go_roundw
                case rel => exact ⟨y + 1, rfl, by omega, by omega, hnx, hblk, hbel⟩
                case measure => simp [intOf]; omega
          · have hxn := Lib.hid (hno.out.x (by omega))
            clear hno
            go_wp2
            go_roundw
            case rel => exact ⟨x + 1, rfl, by omega, by omega, hxn, hblk, hbel⟩
            case measure => simp [intOf]; omega
      · have hxn := hno.out.i (by omega)
        have hlt : i + 1 ≤ S := by have := (Hle.out _ _ _ hxn).1; omega
        have Hxn := Lib.hid hxn
        clear hno hxn
        go_wp2
        go_roundw
        case rel => exact ⟨i + 1, rfl, by omega, hlt, Hxn, hblk, hbel⟩
        case measure => simp [intOf]; omega

set_option maxHeartbeats 400000 in
theorem l1Most_any (x y : Int) (w : World) : Calls Tryz.prog 123 #[.int .i64 x, .int .i64 y] w fun e w' => e = .returned (.int .i64 (max x y)) ∧ w = w' := by
  by_cases h : y < x
  · have e : max x y = x := by omega
    rw [e]; clear e
    go_enter Tryz.func123, Tryz.ntmps123
    go_wp2
    go_ret
    exact ⟨rfl, rfl⟩
  · have e : max x y = y := by omega
    rw [e]; clear e
    go_enter Tryz.func123, Tryz.ntmps123
    go_wp2
    go_ret
    exact ⟨rfl, rfl⟩

set_option maxRecDepth 100000 in
set_option maxHeartbeats 1600000 in
theorem coPoint_any (a b c n X Y S : Int) (w : World) (ha : -5000 ≤ a ∧ a ≤ 5000) (hb : -5000 ≤ b ∧ b ≤ 5000) (hc : -5000 ≤ c ∧ c ≤ 5000) (hn : -5000 ≤ n ∧ n ≤ 5000)
    (hX : 0 ≤ X ∧ X ≤ S) (hY : 0 ≤ Y ∧ Y ≤ S) (hS : S ≤ 90) (hg : Good a b c n X Y) (hX1 : 1 ≤ S) :
    Calls Tryz.prog 118 #[.agg #[.int .i64 a, .int .i64 b, .int .i64 c], .int .i64 n] w (RetPt (Good a b c n) w) := by
  have Hle := Lib.hid (fun (i x y : Int) (h : NoB (Good a b c n) i x y) => h.le hX.1 hY.1 hg)
  have Hg := Lib.hid hg
  clear hg
  obtain ⟨X0, X1⟩ := hX
  obtain ⟨Y0, Y1⟩ := hY
  go_enter Tryz.func118, Tryz.ntmps118
  go_wp2
  go_loopw [6] (fun s wr => Fp1 (Good a b c n) S a b c w s wr) (fun s _ => (5000 - intOf s).toNat)
  case atStart => exact ⟨1, rfl, by omega, by omega, Lib.hid (NoB.one (fun h => by have := h.1; simp at this)), by (repeat (first | with_reducible assumption | (with_reducible apply Blk.new_at; (first | rfl | (simp; done))) | with_reducible apply Blk.store3 | with_reducible apply Blk.store4 | (with_reducible apply Blk.farp; (first | omega | (simp <;> omega))) | with_reducible apply Blk.allocp | with_reducible apply Blk.drew | with_reducible apply Blk.drewN)), (by repeat (first | with_reducible exact Below.refl _ _ | with_reducible assumption | with_reducible apply Below.drew | with_reducible apply below_drewN | (with_reducible apply below_setp; (first | omega | (simp <;> omega))) | (with_reducible apply below_allocp; (first | omega | (simp <;> omega))) | (with_reducible refine below_viap (by assumption) ?_ ?_; (first | omega | (simp <;> omega)))))⟩
  case round =>
    obtain ⟨i, rfl, hi0, hi1, hno, hblk, hbel⟩ := hrel
    have h100 : i ≤ 100 := by omega
    go_wp2
    obtain ⟨wo, rfl⟩ : ∃ wo : World, wo = wr := ⟨_, rfl⟩
    go_loopw [7] (fun s wx => Fp2 (Good a b c n) i a b c w s wx) (fun s _ => (5010 - intOf s).toNat)
    case atStart => exact ⟨0, rfl, by omega, by omega, hno, hblk, hbel⟩
    case round =>
      clear hno hblk hbel
      obtain ⟨x, rfl, hx0, hx1, hno, hblk, hbel⟩ := hrel
      by_cases hxi : x ≤ i
      · go_wp2
        obtain ⟨wp, rfl⟩ : ∃ wp : World, wp = wr := ⟨_, rfl⟩
        go_loopw [8] (fun s wx => Fp3 (Good a b c n) i x a b c w s wx) (fun s _ => (5020 - intOf s).toNat)
        case atStart => exact ⟨0, rfl, by omega, by omega, hno, hblk, hbel⟩
        case round =>
          clear hno hblk hbel
          obtain ⟨y, rfl, hy0, hy1, hno, hblk, hbel⟩ := hrel
          by_cases hyi : y ≤ i
          · have hok := at_small ha hb hc (x := x) (y := y) (by omega) (by omega)
            obtain ⟨hv1, hv2⟩ := at_bd ha hb hc (x := x) (y := y) (by omega) (by omega)
            have hy0' : 0 ≤ x → 0 ≤ x := id
            have hC0 := hblk.cell; have hF0 := hblk.frozen
            have hz := hblk.lt
            by_cases hxy : y ≤ x
            · by_cases hm : x = i
              · have e1 : (max x y == i) = true := by rw [beq_iff_eq]; omega
                have e0 : max x y = i := by omega
                by_cases hg1 : Int.gcd x y = 1
                · have e2 : ((Int.gcd x y : Int) == 1) = true := by rw [hg1]; rfl
                  by_cases hg2 : Int.gcd (atF a b c x y) n = 1
                  · have e3 : ((Int.gcd (atF a b c x y) n : Int) == 1) = true := by rw [hg2]; rfl
                    have hres : Hid (MinPt (Good a b c n) x y) := Lib.hid ⟨hy0' hx0, hy0, ⟨hg1, hg2⟩, by rw [e0]; exact hno.out⟩
                    clear hm hg1 hg2 e0 hno
                    go_wp2_with (first | (go_at_call 123; (with_reducible refine (l1Most_any x y _).mono ?_); rintro e v ⟨rfl, rfl⟩) | (go_at_call 135; (with_reducible refine (nuGcd_any _ _ _ (by omega) (by omega) (by omega) (by omega)).mono ?_); rintro e v ⟨rfl, nq, rfl⟩) | (go_at_call 136; (with_reducible refine (foValue_any a b c x y _ hok).mono ?_); rintro e v1 ⟨rfl, hB1⟩; have hC1 := (calm_cells hB1).1; have hF1 := (calm_cells hB1).2))
                    go_ret2
                    exact ⟨_, _, rfl, hres.out, (by repeat (first | with_reducible exact Below.refl _ _ | with_reducible assumption | with_reducible apply Below.drew | with_reducible apply below_drewN | (with_reducible apply below_setp; (first | omega | (simp <;> omega))) | (with_reducible apply below_allocp; (first | omega | (simp <;> omega))) | (with_reducible refine below_viap (by assumption) ?_ ?_; (first | omega | (simp <;> omega)))))⟩
                  · have e3 : ((Int.gcd (atF a b c x y) n : Int) == 1) = false := by rw [beq_eq_false_iff_ne]; omega
                    have hnx := Lib.hid (hno.out.y fun _ h => hg2 h.2)
                    clear hm hg1 hg2 e0 hno
                    go_wp2_with (first | (go_at_call 123; (with_reducible refine (l1Most_any x y _).mono ?_); rintro e v ⟨rfl, rfl⟩) | (go_at_call 135; (with_reducible refine (nuGcd_any _ _ _ (by omega) (by omega) (by omega) (by omega)).mono ?_); rintro e v ⟨rfl, nq, rfl⟩) | (go_at_call 136; (with_reducible refine (foValue_any a b c x y _ hok).mono ?_); rintro e v1 ⟨rfl, hB1⟩; have hC1 := (calm_cells hB1).1; have hF1 := (calm_cells hB1).2))
                    go_roundw
                    case rel => exact ⟨y + 1, rfl, by omega, by omega, hnx, by exact Blk.below (w := wr) (B := wr.heap.size) hblk (by repeat (first | with_reducible exact Below.refl _ _ | with_reducible assumption | with_reducible apply Below.drew | with_reducible apply below_drewN | (with_reducible apply below_setp; (first | omega | (simp <;> omega))) | (with_reducible apply below_allocp; (first | omega | (simp <;> omega))) | (with_reducible refine below_viap (by assumption) ?_ ?_; (first | omega | (simp <;> omega))))) hblk.lt, (by repeat (first | with_reducible exact Below.refl _ _ | with_reducible assumption | with_reducible apply Below.drew | with_reducible apply below_drewN | (with_reducible apply below_setp; (first | omega | (simp <;> omega))) | (with_reducible apply below_allocp; (first | omega | (simp <;> omega))) | (with_reducible refine below_viap (by assumption) ?_ ?_; (first | omega | (simp <;> omega)))))⟩
                    case measure => simp [intOf]; omega
                · have e2 : ((Int.gcd x y : Int) == 1) = false := by rw [beq_eq_false_iff_ne]; omega
                  have hnx := Lib.hid (hno.out.y fun _ h => hg1 h.1)
                  clear hm hg1 e0 hno
                  go_wp2_with (first | (go_at_call 123; (with_reducible refine (l1Most_any x y _).mono ?_); rintro e v ⟨rfl, rfl⟩) | (go_at_call 135; (with_reducible refine (nuGcd_any _ _ _ (by omega) (by omega) (by omega) (by omega)).mono ?_); rintro e v ⟨rfl, nq, rfl⟩))
                  go_roundw
                  case rel => exact ⟨y + 1, rfl, by omega, by omega, hnx, by exact Blk.below (w := wr) (B := wr.heap.size) hblk (by repeat (first | with_reducible exact Below.refl _ _ | with_reducible assumption | with_reducible apply Below.drew | with_reducible apply below_drewN | (with_reducible apply below_setp; (first | omega | (simp <;> omega))) | (with_reducible apply below_allocp; (first | omega | (simp <;> omega))) | (with_reducible refine below_viap (by assumption) ?_ ?_; (first | omega | (simp <;> omega))))) hblk.lt, (by repeat (first | with_reducible exact Below.refl _ _ | with_reducible assumption | with_reducible apply Below.drew | with_reducible apply below_drewN | (with_reducible apply below_setp; (first | omega | (simp <;> omega))) | (with_reducible apply below_allocp; (first | omega | (simp <;> omega))) | (with_reducible refine below_viap (by assumption) ?_ ?_; (first | omega | (simp <;> omega)))))⟩
                  case measure => simp [intOf]; omega
              · have e1 : (max x y == i) = false := by rw [beq_eq_false_iff_ne]; omega
                have hnx := Lib.hid (hno.out.y fun h => absurd h (by omega))
                clear hm hno
                go_wp2_with ((go_at_call 123; (with_reducible refine (l1Most_any x y _).mono ?_); rintro e v ⟨rfl, rfl⟩))
                go_roundw
                case rel => exact ⟨y + 1, rfl, by omega, by omega, hnx, hblk, hbel⟩
                case measure => simp [intOf]; omega
            · by_cases hm : y = i
              · have e1 : (max x y == i) = true := by rw [beq_iff_eq]; omega
                have e0 : max x y = i := by omega
                by_cases hg1 : Int.gcd x y = 1
                · have e2 : ((Int.gcd x y : Int) == 1) = true := by rw [hg1]; rfl
                  by_cases hg2 : Int.gcd (atF a b c x y) n = 1
                  · have e3 : ((Int.gcd (atF a b c x y) n : Int) == 1) = true := by rw [hg2]; rfl
                    have hres : Hid (MinPt (Good a b c n) x y) := Lib.hid ⟨hy0' hx0, hy0, ⟨hg1, hg2⟩, by rw [e0]; exact hno.out⟩
                    clear hm hg1 hg2 e0 hno
                    go_wp2_with (first | (go_at_call 123; (with_reducible refine (l1Most_any x y _).mono ?_); rintro e v ⟨rfl, rfl⟩) | (go_at_call 135; (with_reducible refine (nuGcd_any _ _ _ (by omega) (by omega) (by omega) (by omega)).mono ?_); rintro e v ⟨rfl, nq, rfl⟩) | (go_at_call 136; (with_reducible refine (foValue_any a b c x y _ hok).mono ?_); rintro e v1 ⟨rfl, hB1⟩; have hC1 := (calm_cells hB1).1; have hF1 := (calm_cells hB1).2))
                    go_ret2
                    exact ⟨_, _, rfl, hres.out, (by repeat (first | with_reducible exact Below.refl _ _ | with_reducible assumption | with_reducible apply Below.drew | with_reducible apply below_drewN | (with_reducible apply below_setp; (first | omega | (simp <;> omega))) | (with_reducible apply below_allocp; (first | omega | (simp <;> omega))) | (with_reducible refine below_viap (by assumption) ?_ ?_; (first | omega | (simp <;> omega)))))⟩
                  · have e3 : ((Int.gcd (atF a b c x y) n : Int) == 1) = false := by rw [beq_eq_false_iff_ne]; omega
                    have hnx := Lib.hid (hno.out.y fun _ h => hg2 h.2)
                    clear hm hg1 hg2 e0 hno
                    go_wp2_with (first | (go_at_call 123; (with_reducible refine (l1Most_any x y _).mono ?_); rintro e v ⟨rfl, rfl⟩) | (go_at_call 135; (with_reducible refine (nuGcd_any _ _ _ (by omega) (by omega) (by omega) (by omega)).mono ?_); rintro e v ⟨rfl, nq, rfl⟩) | (go_at_call 136; (with_reducible refine (foValue_any a b c x y _ hok).mono ?_); rintro e v1 ⟨rfl, hB1⟩; have hC1 := (calm_cells hB1).1; have hF1 := (calm_cells hB1).2))
                    go_roundw
                    case rel => exact ⟨y + 1, rfl, by omega, by omega, hnx, by exact Blk.below (w := wr) (B := wr.heap.size) hblk (by repeat (first | with_reducible exact Below.refl _ _ | with_reducible assumption | with_reducible apply Below.drew | with_reducible apply below_drewN | (with_reducible apply below_setp; (first | omega | (simp <;> omega))) | (with_reducible apply below_allocp; (first | omega | (simp <;> omega))) | (with_reducible refine below_viap (by assumption) ?_ ?_; (first | omega | (simp <;> omega))))) hblk.lt, (by repeat (first | with_reducible exact Below.refl _ _ | with_reducible assumption | with_reducible apply Below.drew | with_reducible apply below_drewN | (with_reducible apply below_setp; (first | omega | (simp <;> omega))) | (with_reducible apply below_allocp; (first | omega | (simp <;> omega))) | (with_reducible refine below_viap (by assumption) ?_ ?_; (first | omega | (simp <;> omega)))))⟩
                    case measure => simp [intOf]; omega
                · have e2 : ((Int.gcd x y : Int) == 1) = false := by rw [beq_eq_false_iff_ne]; omega
                  have hnx := Lib.hid (hno.out.y fun _ h => hg1 h.1)
                  clear hm hg1 e0 hno
                  go_wp2_with (first | (go_at_call 123; (with_reducible refine (l1Most_any x y _).mono ?_); rintro e v ⟨rfl, rfl⟩) | (go_at_call 135; (with_reducible refine (nuGcd_any _ _ _ (by omega) (by omega) (by omega) (by omega)).mono ?_); rintro e v ⟨rfl, nq, rfl⟩))
                  go_roundw
                  case rel => exact ⟨y + 1, rfl, by omega, by omega, hnx, by exact Blk.below (w := wr) (B := wr.heap.size) hblk (by repeat (first | with_reducible exact Below.refl _ _ | with_reducible assumption | with_reducible apply Below.drew | with_reducible apply below_drewN | (with_reducible apply below_setp; (first | omega | (simp <;> omega))) | (with_reducible apply below_allocp; (first | omega | (simp <;> omega))) | (with_reducible refine below_viap (by assumption) ?_ ?_; (first | omega | (simp <;> omega))))) hblk.lt, (by repeat (first | with_reducible exact Below.refl _ _ | with_reducible assumption | with_reducible apply Below.drew | with_reducible apply below_drewN | (with_reducible apply below_setp; (first | omega | (simp <;> omega))) | (with_reducible apply below_allocp; (first | omega | (simp <;> omega))) | (with_reducible refine below_viap (by assumption) ?_ ?_; (first | omega | (simp <;> omega)))))⟩
                  case measure => simp [intOf]; omega
              · have e1 : (max x y == i) = false := by rw [beq_eq_false_iff_ne]; omega
                have hnx := Lib.hid (hno.out.y fun h => absurd h (by omega))
                clear hm hno
                go_wp2_with ((go_at_call 123; (with_reducible refine (l1Most_any x y _).mono ?_); rintro e v ⟨rfl, rfl⟩))
                go_roundw
                case rel => exact ⟨y + 1, rfl, by omega, by omega, hnx, hblk, hbel⟩
                case measure => simp [intOf]; omega
          · have hxn := Lib.hid (hno.out.x (by omega))
            clear hno
            go_wp2
            go_roundw
            case rel => exact ⟨x + 1, rfl, by omega, by omega, hxn, hblk, hbel⟩
            case measure => simp [intOf]; omega
      · have hxn := hno.out.i (by omega)
        have hlt : i + 1 ≤ S := by have := (Hle.out _ _ _ hxn).1; omega
        have Hxn := Lib.hid hxn
        clear hno hxn
        go_wp2
        go_roundw
        case rel => exact ⟨i + 1, rfl, by omega, hlt, Hxn, hblk, hbel⟩
        case measure => simp [intOf]; omega
end

section
open Go.RowKit

/-- What comes back: an inverse modulo m, up to the greatest common divisor. -/
def RetInv (a m : Int) (w : World) (e : Ending) (w' : World) : Prop := ∃ v : Int, e = .returned (.int .i64 v) ∧ (0 ≤ v ∧ v < m) ∧ Hid (m ∣ Int.gcd a m - a * v) ∧ w = w'
def InvW (a m : Int) (k : Nat) (vr vs vx vy : Value) : Prop := ∃ r s x y : Int, vr = .int .i64 r ∧ vs = .int .i64 s ∧ vx = .int .i64 x ∧ vy = .int .i64 y ∧ s.toNat = k ∧ InvSt a m r s x y

set_option maxHeartbeats 800000 in
theorem inverse_any (a m : Int) (w : World) (hm : 0 < m) (hm2 : m ≤ 1000000000000000) : Calls Tryz.prog 116 #[.int .i64 a, .int .i64 m] w (RetInv a m w) := by
  have h1 := Int.emod_nonneg a (show m ≠ 0 by omega)
  have h2 := Int.emod_lt_of_pos a hm
  have hst := Lib.hid (InvSt.start1 (a := a) hm)
  go_enter Tryz.func116, Tryz.ntmps116
  go_wp2_with (go_at_call 87; (with_reducible refine (mod_any _ _ _ hm (by omega)).mono ?_); rintro e v ⟨rfl, rfl⟩)
  go_loop [5, 6, 7, 8, 9] (fun x y r s _ => ∃ k, InvW a m k r s x y) (fun _ _ _ s _ => (intOf s).toNat)
  case atStart => exact ⟨_, _, _, _, _, rfl, rfl, rfl, rfl, rfl, hst.out⟩
  case round =>
    obtain ⟨k, r, s, x, y, rfl, rfl, rfl, rfl, hk, hs⟩ := hrel
    obtain ⟨x1, x2⟩ := hs.xb
    obtain ⟨y1, y2⟩ := hs.yb
    have r0 := hs.r0; have rm := hs.rm; have s0 := hs.s0; have sm := hs.sm
    have Hs := Lib.hid hs
    clear hs hst hk
    by_cases h0 : s = 0
    · subst h0
      have hd := Lib.hid Hs.out.done
      have h3 := Int.emod_nonneg x (show m ≠ 0 by omega)
      have h4 := Int.emod_lt_of_pos x hm
      go_wp2_with (go_at_call 87; (with_reducible refine (mod_any _ _ _ hm (by omega)).mono ?_); rintro e v ⟨rfl, rfl⟩)
      go_ret
      exact ⟨_, rfl, ⟨h3, h4⟩, hd, rfl⟩
    · have hn := Lib.hid (Hs.out.step (by omega))
      have e1 : (s == 0) = false := by rw [beq_eq_false_iff_ne]; exact h0
      have e2 : (s != 0) = true := by rw [bne_iff_ne]; exact h0
      have e3 : r.tdiv s = r / s := Int.tdiv_eq_ediv_of_nonneg r0
      have q0 : 0 ≤ r / s := Int.ediv_nonneg r0 s0
      have q1 : r / s ≤ r := Int.ediv_le_self _ r0
      obtain ⟨n1, n2, n3, n4, _, _, _, n5, n6, _⟩ := hn.out
      have q2 : r / s * s ≤ r := by have := Int.emod_add_mul_ediv r s; have := Int.emod_nonneg r h0; rw [Int.mul_comm] ; omega
      have q3 : 0 ≤ r / s * s := Int.mul_nonneg q0 s0
      have n7 : r - r / s * s < s := by have := Int.emod_add_mul_ediv r s; have := Int.emod_lt_of_pos r (show 0 < s by omega); rw [Int.mul_comm (r / s)]; omega
      have w1 : -(2 * m) ≤ r / s * y ∧ r / s * y ≤ 2 * m := by omega
      obtain ⟨w1, w2⟩ := w1
      clear h0
      go_wp2
      go_round
      case rel => exact ⟨_, _, _, _, _, rfl, rfl, rfl, rfl, rfl, hn.out⟩
      case measure => simp [intOf]; omega

set_option maxHeartbeats 800000 in
theorem nuInverse_any (a m : Int) (w : World) (hm : 0 < m) (hm2 : m ≤ 1000000000000000) (hg : Int.gcd a m = 1) : Calls Tryz.prog 140 #[.int .i64 a, .int .i64 m] w (RetInv a m w) := by
  have h1 := Int.emod_nonneg a (show m ≠ 0 by omega)
  have h2 := Int.emod_lt_of_pos a hm
  have hst := Lib.hid (InvSt.start2 (a := a) hm)
  have Hg := Lib.hid hg
  clear hg
  go_enter Tryz.func140, Tryz.ntmps140
  go_wp2_with (go_at_call 95; (with_reducible refine (nuMod_any _ _ _ hm (by omega)).mono ?_); rintro e v ⟨rfl, rfl⟩)
  go_loop [5, 6, 7, 8, 9] (fun r s x y _ => ∃ k, InvW a m k r s x y) (fun _ s _ _ _ => (intOf s).toNat)
  case atStart => exact ⟨_, _, _, _, _, rfl, rfl, rfl, rfl, rfl, hst.out⟩
  case round =>
    obtain ⟨k, r, s, x, y, rfl, rfl, rfl, rfl, hk, hs⟩ := hrel
    obtain ⟨x1, x2⟩ := hs.xb
    obtain ⟨y1, y2⟩ := hs.yb
    have r0 := hs.r0; have rm := hs.rm; have s0 := hs.s0; have sm := hs.sm
    have Hs := Lib.hid hs
    clear hs hst hk
    by_cases h0 : s = 0
    · subst h0
      have hd := Lib.hid Hs.out.done
      have h3 := Int.emod_nonneg x (show m ≠ 0 by omega)
      have h4 := Int.emod_lt_of_pos x hm
      have hr1 : r = 1 := by
        have := Hs.out.g
        rw [Hg.out] at this
        simp at this; omega
      subst hr1
      go_wp2_with (go_at_call 95; (with_reducible refine (nuMod_any _ _ _ hm (by omega)).mono ?_); rintro e v ⟨rfl, rfl⟩)
      go_ret
      exact ⟨_, rfl, ⟨h3, h4⟩, hd, rfl⟩
    · have hn := Lib.hid (Hs.out.step (by omega))
      have e1 : (s == 0) = false := by rw [beq_eq_false_iff_ne]; exact h0
      have e2 : (s != 0) = true := by rw [bne_iff_ne]; exact h0
      have e3 : r.tdiv s = r / s := Int.tdiv_eq_ediv_of_nonneg r0
      have q0 : 0 ≤ r / s := Int.ediv_nonneg r0 s0
      have q1 : r / s ≤ r := Int.ediv_le_self _ r0
      obtain ⟨n1, n2, n3, n4, _, _, _, n5, n6, _⟩ := hn.out
      have q2 : r / s * s ≤ r := by have := Int.emod_add_mul_ediv r s; have := Int.emod_nonneg r h0; rw [Int.mul_comm] ; omega
      have q3 : 0 ≤ r / s * s := Int.mul_nonneg q0 s0
      have n7 : r - r / s * s < s := by have := Int.emod_add_mul_ediv r s; have := Int.emod_lt_of_pos r (show 0 < s by omega); rw [Int.mul_comm (r / s)]; omega
      have w1 : -(2 * m) ≤ r / s * y ∧ r / s * y ≤ 2 * m := by omega
      obtain ⟨w1, w2⟩ := w1
      clear h0
      go_wp2
      go_round
      case rel => exact ⟨_, _, _, _, _, rfl, rfl, rfl, rfl, rfl, hn.out⟩
      case measure => simp [intOf]; omega
end

section
open Go.RowKit

open Classical in
/-- The inverse modulo m. -/
noncomputable def invF (a m : Int) : Int := if h : ∃ v : Int, (0 ≤ v ∧ v < m) ∧ m ∣ Int.gcd a m - a * v then h.choose else 0
theorem inv_uniq {a m u v : Int} (hg : Int.gcd a m = 1) (hu : 0 ≤ u ∧ u < m) (hv : 0 ≤ v ∧ v < m) (du : m ∣ Int.gcd a m - a * u) (dv : m ∣ Int.gcd a m - a * v) : u = v := by
  have h1 : m ∣ a * (v - u) := by
    have := Int.dvd_sub du dv
    have e : (Int.gcd a m - a * u : Int) - (Int.gcd a m - a * v) = a * (v - u) := by grind
    rwa [e] at this
  have h2 : m ∣ v - u := by
    rw [← Int.natAbs_dvd_natAbs, Int.natAbs_mul] at h1
    rw [← Int.natAbs_dvd_natAbs]
    exact Nat.Coprime.dvd_of_dvd_mul_left (show Nat.Coprime m.natAbs a.natAbs by unfold Nat.Coprime; rw [Nat.gcd_comm]; exact hg) h1
  have h3 := Int.emod_eq_zero_of_dvd h2
  have h4 := Int.emod_eq_emod_iff_emod_sub_eq_zero.2 h3
  rw [Int.emod_eq_of_lt hu.1 hu.2, Int.emod_eq_of_lt hv.1 hv.2] at h4
  exact h4.symm
theorem inv_eq {a m v : Int} (hg : Int.gcd a m = 1) (hv : 0 ≤ v ∧ v < m) (dv : m ∣ Int.gcd a m - a * v) : v = invF a m := by
  have hx : ∃ v : Int, (0 ≤ v ∧ v < m) ∧ m ∣ Int.gcd a m - a * v := ⟨v, hv, dv⟩
  unfold invF
  rw [dif_pos hx]
  exact inv_uniq hg hv hx.choose_spec.1 dv hx.choose_spec.2
theorem inv_spec {a m : Int} (hm : 0 < m) (hg : Int.gcd a m = 1) : (0 ≤ invF a m ∧ invF a m < m) ∧ m ∣ 1 - a * invF a m := by
  obtain ⟨u, v, h⟩ := bez a m
  rw [hg] at h
  have h1 := Int.emod_nonneg u (show m ≠ 0 by omega)
  have h2 := Int.emod_lt_of_pos u hm
  have d : m ∣ Int.gcd a m - a * (u % m) := by
    rw [hg]
    refine ⟨v + a * (u / m), ?_⟩
    have e := Int.emod_add_mul_ediv u m
    have e2 : u % m = u - m * (u / m) := by omega
    rw [e2, ← h]; grind
  have e := inv_eq hg ⟨h1, h2⟩ d
  rw [← e]
  rw [hg] at d
  exact ⟨⟨h1, h2⟩, d⟩

theorem inverse_c (a m : Int) (w : World) (hm : 0 < m) (hm2 : m ≤ 1000000000000000) (hg : Int.gcd a m = 1) :
    Calls Tryz.prog 116 #[.int .i64 a, .int .i64 m] w fun e w' => e = .returned (.int .i64 (invF a m)) ∧ w = w' :=
  (inverse_any a m w hm hm2).mono fun _ _ ⟨_, h1, h2, h3, h4⟩ => ⟨by rw [h1, inv_eq hg h2 h3.out], h4⟩
theorem nuInverse_c (a m : Int) (w : World) (hm : 0 < m) (hm2 : m ≤ 1000000000000000) (hg : Int.gcd a m = 1) :
    Calls Tryz.prog 140 #[.int .i64 a, .int .i64 m] w fun e w' => e = .returned (.int .i64 (invF a m)) ∧ w = w' :=
  (nuInverse_any a m w hm hm2 hg).mono fun _ _ ⟨_, h1, h2, h3, h4⟩ => ⟨by rw [h1, inv_eq hg h2 h3.out], h4⟩
theorem nuGcd_one (a b : Int) (w : World) (h1 : -4000000000000000000 ≤ a) (h2 : a ≤ 4000000000000000000) (h3 : -4000000000000000000 ≤ b) (h4 : b ≤ 4000000000000000000) (hg : Int.gcd a b = 1) :
    Calls Tryz.prog 135 #[.int .i64 a, .int .i64 b] w fun e w' => e = .returned (.int .i64 1) ∧ ∃ n, w' = w.drewN n :=
  (nuGcd_any a b w h1 h2 h3 h4).mono fun _ _ ⟨h5, h6⟩ => ⟨by rw [h5, hg]; rfl, h6⟩

/-- Bezout's coefficients of a coprime point. -/
noncomputable def bezS (x y : Int) : Int := if y = 0 then 1 else invF x y
noncomputable def bezV (x y : Int) : Int := if y = 0 then 0 else (1 - x * invF x y) / y
structure BezOK (x y S V : Int) : Prop where
  id : x * S + y * V = 1
  S0 : 0 ≤ S
  S1 : S ≤ 10
  V0 : -10 ≤ V
  V1 : V ≤ 10
theorem bez_ok {x y : Int} (hx : 0 ≤ x ∧ x ≤ 3) (hy : 0 ≤ y ∧ y ≤ 3) (hg : Int.gcd x y = 1) : BezOK x y (bezS x y) (bezV x y) := by
  unfold bezS bezV
  by_cases h0 : y = 0
  · subst h0
    simp at hg
    have : x = 1 := by omega
    subst this
    simp only [if_true]
    exact ⟨by omega, by omega, by omega, by omega, by omega⟩
  · rw [if_neg h0, if_neg h0]
    obtain ⟨⟨s1, s2⟩, k, hk⟩ := inv_spec (show 0 < y by omega) hg
    generalize invF x y = s at *
    have e : (1 - x * s) / y = k := by rw [hk]; exact Int.mul_ediv_cancel_left _ h0
    rw [e]
    have b1 : 0 ≤ x * s := Int.mul_nonneg hx.1 s1
    have b2 : x * s ≤ 3 * 3 := Int.mul_le_mul hx.2 (by omega) s1 (by omega)
    have kk : -9 ≤ k ∧ k ≤ 1 := by
      constructor
      · apply Int.not_lt.1; intro hl
        have : y * k ≤ y * (-10) := Int.mul_le_mul_of_nonneg_left (by omega) (by omega)
        omega
      · apply Int.not_lt.1; intro hl
        have : y * 2 ≤ y * k := Int.mul_le_mul_of_nonneg_left (by omega) (by omega)
        omega
    exact ⟨by omega, s1, by omega, by omega, by omega⟩

set_option maxHeartbeats 400000 in
theorem nuBezout_any (x y S V : Int) (w : World) (hx : 0 ≤ x ∧ x ≤ 3) (hy : 0 ≤ y ∧ y ≤ 3) (hg : Int.gcd x y = 1) (hS : S = bezS x y) (hV : V = bezV x y) :
    Calls Tryz.prog 139 #[.int .i64 x, .int .i64 y] w fun e w' => e = .returned (.tuple #[.int .i64 1, .int .i64 S, .int .i64 V]) ∧ Below w.heap.size w w' := by
  obtain ⟨x0, x3⟩ := hx
  obtain ⟨y0, y3⟩ := hy
  by_cases h0 : y = 0
  · subst h0
    have hx1 : x = 1 := by simp at hg; omega
    subst hx1
    unfold bezS at hS
    unfold bezV at hV
    rw [if_pos rfl] at hS hV
    subst hS; subst hV
    have Hg := Lib.hid hg; clear hg
    go_enter Tryz.func139, Tryz.ntmps139
    go_wp2_with (first | (go_at_call 135; (with_reducible refine (nuGcd_one _ _ _ (by omega) (by omega) (by omega) (by omega) Hg.out).mono ?_); rintro e v ⟨rfl, nq, rfl⟩) | go_in)
    go_ret3
    exact ⟨rfl, (by repeat (first | with_reducible exact Below.refl _ _ | with_reducible assumption | with_reducible apply Below.drew | with_reducible apply below_drewN | (with_reducible apply below_setp; (first | omega | (simp <;> omega))) | (with_reducible apply below_allocp; (first | omega | (simp <;> omega))) | (with_reducible refine below_viap (by assumption) ?_ ?_; (first | omega | (simp <;> omega)))))⟩
  · unfold bezS at hS
    unfold bezV at hV
    rw [if_neg h0] at hS hV
    obtain ⟨⟨s1, s2⟩, k, hk⟩ := inv_spec (show 0 < y by omega) hg
    have hc := fun w => nuInverse_c x y w (by omega) (by omega) hg
    rw [← hS] at hk hV s1 s2 hc
    have b1 : 0 ≤ x * S := Int.mul_nonneg x0 s1
    have b2 : x * S ≤ 3 * 3 := Int.mul_le_mul x3 (by omega) s1 (by omega)
    have e0 : (1 - x * S).tdiv y = V := by
      rw [hV, hk, Int.mul_tdiv_cancel_left _ h0, Int.mul_ediv_cancel_left _ h0]
    have e1 : (y == 0) = false := by rw [beq_eq_false_iff_ne]; exact h0
    have hV1 : -10 ≤ V ∧ V ≤ 10 := by
      rw [← e0]; exact tdiv_bd (by omega) (by omega)
    obtain ⟨V0, V1⟩ := hV1
    have Hc := Lib.hid hc
    have Hg := Lib.hid hg
    clear hg hc hk hS hV
    have ey : ((y.natAbs : Nat) : Int) = y := by omega
    have wx : IntKind.i64.wrap x = x := IntWalk.i64_in _ (by omega)
    have wy : IntKind.i64.wrap y = y := IntWalk.i64_in _ (by omega)
    have wp : IntKind.i64.wrap (x * S) = x * S := IntWalk.i64_in _ (by omega)
    have wq : IntKind.i64.wrap (1 - x * S) = 1 - x * S := IntWalk.i64_in _ (by omega)
    have wv : IntKind.i64.wrap V = V := IntWalk.i64_in _ (by omega)
    go_enter Tryz.func139, Tryz.ntmps139
    go_wp2_with (first | (go_at_call 135; (with_reducible refine (nuGcd_one _ _ _ (by omega) (by omega) (by omega) (by omega) Hg.out).mono ?_); rintro e v ⟨rfl, nq, rfl⟩))
    refine wp_region_calm 9 (Below (w.heap.size) _) (by kernel_rfl) (by kernel_rfl) ((Below.refl _ _).drew) ?_
    simp only [List.take_succ_cons, List.take_zero, List.drop_succ_cons, List.drop_zero]
    repeat (first | (apply wpCalm_go; go_simp; (intro w' hw' hcc hff; go_simp; first | exact rfl | (refine (l1Abs_any _ _ (by omega) (by omega)).mono ?_; rintro e w1 ⟨rfl, hb⟩; exact ⟨rfl, calm_call_same hw' hb⟩) | ((with_reducible refine (Hc.out _).mono ?_); rintro e w1 ⟨rfl, hb⟩; exact ⟨rfl, calm_call_same hw' hb⟩)); (intro K hK; go_simp; refine hK _ ?_; clear hK K)) | (apply wpCalm_skip; go_simp; (try (focus (simp [undef]; done))); (intro K hK; go_simp; refine hK _ ?_; clear hK K)))
    refine wpCalm_nil ?_
    intro w1 hw1
    have hcc := (calm_cells hw1).1
    have hff := (calm_cells hw1).2
    have hss := calm_size hw1
    have hsz := hw1.size
    (try simp at hsz)
    go_wp2
    refine wp_region_calm 12 (Below (w.heap.size) _) (by kernel_rfl) (by kernel_rfl) ((Below.refl _ _).drew) ?_
    simp only [List.take_succ_cons, List.take_zero, List.drop_succ_cons, List.drop_zero]
    repeat (first | (apply wpCalm_go; go_simp; (intro w' hw' hcc hff; go_simp; first | exact rfl | fail); (intro K hK; go_simp; refine hK _ ?_; clear hK K)) | (apply wpCalm_skip; go_simp; (try (focus (simp [undef]; done))); (intro K hK; go_simp; refine hK _ ?_; clear hK K)))
    refine wpCalm_nil ?_
    intro w1 hw1
    have hcc := (calm_cells hw1).1
    have hff := (calm_cells hw1).2
    have hss := calm_size hw1
    have hsz := hw1.size
    (try simp at hsz)
    go_wp2
    go_ret3
    exact ⟨rfl, (by repeat (first | with_reducible exact Below.refl _ _ | with_reducible assumption | with_reducible apply Below.drew | with_reducible apply below_drewN | (with_reducible apply below_setp; (first | omega | (simp <;> omega))) | (with_reducible apply below_allocp; (first | omega | (simp <;> omega))) | (with_reducible refine below_viap (by assumption) ?_ ?_; (first | omega | (simp <;> omega)))))⟩
end

section
open Go.RowKit

/-- The data of a completed point. -/
structure CoD (a b c x y S Q T : Int) : Prop where
  ha : -100 ≤ a ∧ a ≤ 100
  hb : -100 ≤ b ∧ b ≤ 100
  hc : -1100 ≤ c ∧ c ≤ 1100
  hx : 0 ≤ x ∧ x ≤ 3
  hy : 0 ≤ y ∧ y ≤ 3
  hg : Int.gcd x y = 1
  he : 0 < atF a b c x y
  bez : BezOK x y S (-Q)
  eS : S = bezS x y
  eQ : -Q = bezV x y
  eT : T = -(polF a b c x y Q S / (2 * atF a b c x y))

theorem pol_shift (a b c x y q s T : Int) : polF a b c x y (q + T * x) (s + T * y) = polF a b c x y q s + 2 * T * atF a b c x y := by
  unfold polF atF; grind
theorem at_disc {a b c x y q t : Int} (h : x * t - q * y = 1) : polF a b c x y q t * polF a b c x y q t - disc ⟨a, b, c⟩ = 4 * atF a b c x y * atF a b c q t := by
  have key : polF a b c x y q t * polF a b c x y q t - disc ⟨a, b, c⟩ * ((x * t - q * y) * (x * t - q * y)) = 4 * atF a b c x y * atF a b c q t := by
    simp only [polF, atF, disc]; grind
  rw [h] at key; simpa using key

variable {a b c x y S Q T : Int}
theorem CoD.det (h : CoD a b c x y S Q T) : x * (S + T * y) - (Q + T * x) * y = 1 := by
  have := h.bez.id; grind
theorem CoD.B0 (h : CoD a b c x y S Q T) : -100000 ≤ polF a b c x y Q S ∧ polF a b c x y Q S ≤ 100000 := by
  obtain ⟨a1, a2⟩ := h.ha; obtain ⟨b1, b2⟩ := h.hb; obtain ⟨c1, c2⟩ := h.hc
  obtain ⟨x1, x2⟩ := h.hx; obtain ⟨y1, y2⟩ := h.hy
  obtain ⟨_, s1, s2, v1, v2⟩ := h.bez
  have k1 := mul_bd (a := 2 * a) (x := x) (A := 200) (X := 3) (by omega) (by omega) (by omega) (by omega)
  have k2 := mul_bd (a := 2 * a * x) (x := Q) (A := 600) (X := 10) (by omega) (by omega) (by omega) (by omega)
  have k3 := mul_bd (a := x) (x := S) (A := 3) (X := 10) (by omega) (by omega) (by omega) (by omega)
  have k4 := mul_bd (a := y) (x := Q) (A := 3) (X := 10) (by omega) (by omega) (by omega) (by omega)
  have k5 := mul_bd (a := b) (x := x * S + y * Q) (A := 100) (X := 60) (by omega) (by omega) (by omega) (by omega)
  have k6 := mul_bd (a := 2 * c) (x := y) (A := 2200) (X := 3) (by omega) (by omega) (by omega) (by omega)
  have k7 := mul_bd (a := 2 * c * y) (x := S) (A := 6600) (X := 10) (by omega) (by omega) (by omega) (by omega)
  unfold polF; omega
theorem CoD.e_bd (h : CoD a b c x y S Q T) : atF a b c x y ≤ 20000 := by
  obtain ⟨a1, a2⟩ := h.ha; obtain ⟨b1, b2⟩ := h.hb; obtain ⟨c1, c2⟩ := h.hc
  obtain ⟨x1, x2⟩ := h.hx; obtain ⟨y1, y2⟩ := h.hy
  have k1 := mul_bd (a := a) (x := x) (A := 100) (X := 3) (by omega) (by omega) (by omega) (by omega)
  have k2 := mul_bd (a := a * x) (x := x) (A := 300) (X := 3) (by omega) (by omega) (by omega) (by omega)
  have k3 := mul_bd (a := b) (x := x) (A := 100) (X := 3) (by omega) (by omega) (by omega) (by omega)
  have k4 := mul_bd (a := b * x) (x := y) (A := 300) (X := 3) (by omega) (by omega) (by omega) (by omega)
  have k5 := mul_bd (a := c) (x := y) (A := 1100) (X := 3) (by omega) (by omega) (by omega) (by omega)
  have k6 := mul_bd (a := c * y) (x := y) (A := 3300) (X := 3) (by omega) (by omega) (by omega) (by omega)
  unfold atF; omega
theorem CoD.T_bd (h : CoD a b c x y S Q T) : -100000 ≤ T ∧ T ≤ 100000 := by
  have hB := h.B0
  have he := h.he
  rw [h.eT]
  generalize polF a b c x y Q S = B at *
  generalize atF a b c x y = e at *
  have h1 := Int.emod_add_mul_ediv B (2 * e)
  have h2 := Int.emod_nonneg B (show 2 * e ≠ 0 by omega)
  have h3 := Int.emod_lt_of_pos B (show 0 < 2 * e by omega)
  have h4 := Int.natAbs_ediv_le_natAbs B (2 * e)
  omega
/-- The middle coefficient. -/
theorem CoD.hbm (h : CoD a b c x y S Q T) : polF a b c x y (Q + T * x) (S + T * y) = polF a b c x y Q S % (2 * atF a b c x y) := by
  rw [pol_shift, h.eT]
  have h1 := Int.emod_add_mul_ediv (polF a b c x y Q S) (2 * atF a b c x y)
  generalize polF a b c x y Q S / (2 * atF a b c x y) = z at *
  have e : 2 * -z * atF a b c x y = -(2 * atF a b c x y * z) := by grind
  omega
theorem CoD.hb0 (h : CoD a b c x y S Q T) : 0 ≤ polF a b c x y (Q + T * x) (S + T * y) ∧ polF a b c x y (Q + T * x) (S + T * y) < 2 * atF a b c x y := by
  have he := h.he
  rw [h.hbm]
  exact ⟨Int.emod_nonneg _ (by omega), Int.emod_lt_of_pos _ (by omega)⟩
theorem CoD.qt (h : CoD a b c x y S Q T) : (-400000 ≤ Q + T * x ∧ Q + T * x ≤ 400000) ∧ (-400000 ≤ S + T * y ∧ S + T * y ≤ 400000) ∧ (-300000 ≤ T * x ∧ T * x ≤ 300000) ∧ (-300000 ≤ T * y ∧ T * y ≤ 300000) := by
  have hT := h.T_bd
  obtain ⟨x1, x2⟩ := h.hx; obtain ⟨y1, y2⟩ := h.hy
  obtain ⟨_, s1, s2, v1, v2⟩ := h.bez
  have k1 := mul_bd (a := T) (x := x) (A := 100000) (X := 3) (by omega) (by omega) (by omega) (by omega)
  have k2 := mul_bd (a := T) (x := y) (A := 100000) (X := 3) (by omega) (by omega) (by omega) (by omega)
  omega
theorem at_wide {u v : Int} (ha : -100 ≤ a ∧ a ≤ 100) (hb : -100 ≤ b ∧ b ≤ 100) (hc : -1100 ≤ c ∧ c ≤ 1100) (hu : -400000 ≤ u ∧ u ≤ 400000) (hv : -400000 ≤ v ∧ v ≤ 400000) : AtOK a b c u v := by
  have k1 := mul_bd (a := a) (x := u) (A := 100) (X := 400000) (by omega) (by omega) (by omega) (by omega)
  have k2 := mul_bd (a := a * u) (x := u) (A := 40000000) (X := 400000) (by omega) (by omega) (by omega) (by omega)
  have k3 := mul_bd (a := b) (x := u) (A := 100) (X := 400000) (by omega) (by omega) (by omega) (by omega)
  have k4 := mul_bd (a := b * u) (x := v) (A := 40000000) (X := 400000) (by omega) (by omega) (by omega) (by omega)
  have k5 := mul_bd (a := c) (x := v) (A := 1100) (X := 400000) (by omega) (by omega) (by omega) (by omega)
  have k6 := mul_bd (a := c * v) (x := v) (A := 440000000) (X := 400000) (by omega) (by omega) (by omega) (by omega)
  exact ⟨⟨by omega, by omega⟩, ⟨by omega, by omega⟩, ⟨by omega, by omega⟩, ⟨by omega, by omega⟩, ⟨by omega, by omega⟩, ⟨by omega, by omega⟩⟩
theorem pol_wide {x y u v : Int} (ha : -100 ≤ a ∧ a ≤ 100) (hb : -100 ≤ b ∧ b ≤ 100) (hc : -1100 ≤ c ∧ c ≤ 1100) (hx : 0 ≤ x ∧ x ≤ 3) (hy : 0 ≤ y ∧ y ≤ 3) (hu : -400000 ≤ u ∧ u ≤ 400000) (hv : -400000 ≤ v ∧ v ≤ 400000) : PolOK a b c x y u v := by
  have k1 := mul_bd (a := 2 * a) (x := x) (A := 200) (X := 3) (by omega) (by omega) (by omega) (by omega)
  have k2 := mul_bd (a := 2 * a * x) (x := u) (A := 600) (X := 400000) (by omega) (by omega) (by omega) (by omega)
  have k3 := mul_bd (a := x) (x := v) (A := 3) (X := 400000) (by omega) (by omega) (by omega) (by omega)
  have k4 := mul_bd (a := y) (x := u) (A := 3) (X := 400000) (by omega) (by omega) (by omega) (by omega)
  have k5 := mul_bd (a := b) (x := x * v + y * u) (A := 100) (X := 2400000) (by omega) (by omega) (by omega) (by omega)
  have k6 := mul_bd (a := 2 * c) (x := y) (A := 2200) (X := 3) (by omega) (by omega) (by omega) (by omega)
  have k7 := mul_bd (a := 2 * c * y) (x := v) (A := 6600) (X := 400000) (by omega) (by omega) (by omega) (by omega)
  exact ⟨⟨by omega, by omega⟩, ⟨by omega, by omega⟩, ⟨by omega, by omega⟩, ⟨by omega, by omega⟩, ⟨by omega, by omega⟩, ⟨by omega, by omega⟩, ⟨by omega, by omega⟩, ⟨by omega, by omega⟩, ⟨by omega, by omega⟩⟩

set_option maxRecDepth 100000 in
set_option maxHeartbeats 1600000 in
theorem complete_any (a b c x y S Q T : Int) (w : World) (h : CoD a b c x y S Q T) :
    Calls Tryz.prog 86 #[.agg #[.int .i64 a, .int .i64 b, .int .i64 c], .int .i64 x, .int .i64 y] w fun e w' =>
      e = .returned (.tuple #[.agg #[.int .i64 (atF a b c x y), .int .i64 (polF a b c x y (Q + T * x) (S + T * y)), .int .i64 (atF a b c (Q + T * x) (S + T * y))], .agg #[.int .i64 x, .int .i64 (Q + T * x), .int .i64 y, .int .i64 (S + T * y)]]) ∧ Below w.heap.size w w' := by
  obtain ⟨⟨q1, q2⟩, ⟨t1, t2⟩, ⟨m1, m2⟩, ⟨n1, n2⟩⟩ := h.qt
  have hB := h.B0
  have heb := h.e_bd
  have he := h.he
  obtain ⟨T1, T2⟩ := h.T_bd
  obtain ⟨x0, x3⟩ := h.hx; obtain ⟨y0, y3⟩ := h.hy
  obtain ⟨bid, s1, s2, v1, v2⟩ := h.bez
  have f1 := at_wide h.ha h.hb h.hc (u := x) (v := y) (by omega) (by omega)
  have f2 := pol_wide h.ha h.hb h.hc h.hx h.hy (u := Q) (v := S) (by omega) (by omega)
  have f3 := at_wide h.ha h.hb h.hc (u := Q) (v := S) (by omega) (by omega)
  have f4 := pol_wide h.ha h.hb h.hc h.hx h.hy (u := Q + T * x) (v := S + T * y) (by omega) (by omega)
  have f5 := at_wide h.ha h.hb h.hc (u := Q + T * x) (v := S + T * y) (by omega) (by omega)
  have f1' := f1
  have hT := h.eT
  have hfl : ∀ w, Calls Tryz.prog 114 #[.int .i64 (polF a b c x y Q S), .int .i64 (2 * atF a b c x y)] w fun e w' => e = .returned (.int .i64 (-T)) ∧ w = w' := by
    intro w
    have := floorDiv_any (polF a b c x y Q S) (2 * atF a b c x y) w (by omega) (by omega) (by omega) (by omega)
    rw [hT, Int.neg_neg]; exact this
  have Hfl := Lib.hid hfl
  have s_any := Lib.hid (substitute_any a b c x Q y S)
  have s_any2 := Lib.hid (substitute_any a b c x (Q + T * x) y (S + T * y))
  have hb1 : -100000 ≤ polF a b c x y Q S := hB.1
  have hb2 : polF a b c x y Q S ≤ 100000 := hB.2
  generalize hE : atF a b c x y = E at *
  generalize hP : polF a b c x y Q S = P at *
  generalize hR : atF a b c Q S = R at *
  generalize hP2 : polF a b c x y (Q + T * x) (S + T * y) = P2 at *
  generalize hR2 : atF a b c (Q + T * x) (S + T * y) = R2 at *
  clear hE hP hR hP2 hR2
  by_cases h0 : y = 0
  · have eS := h.eS
    have eQ := h.eQ
    subst h0
    have hx1 : x = 1 := by have := h.hg; simp at this; omega
    subst hx1
    unfold bezS at eS; unfold bezV at eQ
    rw [if_pos rfl] at eS eQ
    obtain rfl : Q = 0 := by omega
    subst eS
    have e1 : 0 + T * 1 = T := by omega
    have e2 : 1 + T * 0 = 1 := by omega
    rw [e1, e2] at s_any2 f4 ⊢
    rw [e1, e2] at f5
    clear h hfl hT hB bid eQ e1 e2 q1 q2 t1 t2
    go_enter Tryz.func86, Tryz.ntmps86
    go_wp2_with (first
      | (go_at_call 36; (with_reducible refine (s_any.out _ f1 f2 f3).mono ?_); rintro e v1 ⟨rfl, hB1⟩; have hZ1 := hB1.size; (try simp at hZ1); (try have zl1 : w.heap.size < v1.heap.size := by omega); (try have ze1 : w.heap.size ≤ v1.heap.size := by omega); (try have zn1 : ¬ w.heap.size = v1.heap.size := by omega); (try have zm1 : ¬ v1.heap.size = w.heap.size := by omega); have hA1 : Blk v1 (w.heap.size) 33 #[.int .i64 a, .int .i64 b, .int .i64 c] := Blk.call (by (repeat (first | with_reducible assumption | (with_reducible apply Blk.new_at; (first | rfl | (simp; done))) | with_reducible apply Blk.store3 | with_reducible apply Blk.store4 | (with_reducible apply Blk.farp; (first | omega | (simp <;> omega))) | with_reducible apply Blk.allocp | with_reducible apply Blk.drew | with_reducible apply Blk.drewN))) hB1; have cA1 := hA1.cell; have fA1 := hA1.frozen; have lA1 := hA1.lt; have mA1 := Nat.ne_of_gt lA1; have nA1 := Nat.ne_of_lt lA1; have hR1 : Blk v1 (w.heap.size + 1) 33 #[.int .i64 0, .int .i64 0, .int .i64 0] := Blk.call (by (repeat (first | with_reducible assumption | (with_reducible apply Blk.new_at; (first | rfl | (simp; done))) | with_reducible apply Blk.store3 | with_reducible apply Blk.store4 | (with_reducible apply Blk.farp; (first | omega | (simp <;> omega))) | with_reducible apply Blk.allocp | with_reducible apply Blk.drew | with_reducible apply Blk.drewN))) hB1; have cR1 := hR1.cell; have fR1 := hR1.frozen; have lR1 := hR1.lt; have mR1 := Nat.ne_of_gt lR1; have nR1 := Nat.ne_of_lt lR1; have hX1 : Blk v1 (w.heap.size + 1 + 1) 27 #[.int .i64 0, .int .i64 0, .int .i64 0, .int .i64 0] := Blk.call (by (repeat (first | with_reducible assumption | (with_reducible apply Blk.new_at; (first | rfl | (simp; done))) | with_reducible apply Blk.store3 | with_reducible apply Blk.store4 | (with_reducible apply Blk.farp; (first | omega | (simp <;> omega))) | with_reducible apply Blk.allocp | with_reducible apply Blk.drew | with_reducible apply Blk.drewN))) hB1; have cX1 := hX1.cell; have fX1 := hX1.frozen; have lX1 := hX1.lt; have mX1 := Nat.ne_of_gt lX1; have nX1 := Nat.ne_of_lt lX1; have hM1 : Blk v1 (w.heap.size + 1 + 1 + 1) 27 #[.int .i64 1, .int .i64 0, .int .i64 0, .int .i64 1] := Blk.call (by (repeat (first | with_reducible assumption | (with_reducible apply Blk.new_at; (first | rfl | (simp; done))) | with_reducible apply Blk.store3 | with_reducible apply Blk.store4 | (with_reducible apply Blk.farp; (first | omega | (simp <;> omega))) | with_reducible apply Blk.allocp | with_reducible apply Blk.drew | with_reducible apply Blk.drewN))) hB1; have cM1 := hM1.cell; have fM1 := hM1.frozen; have lM1 := hM1.lt; have mM1 := Nat.ne_of_gt lM1; have nM1 := Nat.ne_of_lt lM1)
      | (go_at_call 114; (with_reducible refine (Hfl.out _).mono ?_); rintro e v ⟨rfl, rfl⟩))
    clear s_any Hfl hA1 hR1 hX1 hM1 f1 f2 f3
    have k2 : ¬ w.heap.size = w.heap.size + 1 + 1 := by omega
    have k3 : ¬ w.heap.size + 1 + 1 = w.heap.size := by omega
    have k4 : ¬ w.heap.size + 1 + 1 + 1 = w.heap.size + 1 := by omega
    have k5 : ¬ w.heap.size + 1 = w.heap.size + 1 + 1 + 1 := by omega
    have k6 : ¬ w.heap.size = w.heap.size + 1 + 1 + 1 := by omega
    have k7 : ¬ w.heap.size + 1 + 1 + 1 = w.heap.size := by omega
    go_region_held3 (fun w' => w'.cell? ⟨w.heap.size, 0, none⟩ = some (.int .i64 (a)) ∧ w'.cell? ⟨w.heap.size, 1, none⟩ = some (.int .i64 (b)) ∧ w'.cell? ⟨w.heap.size, 2, none⟩ = some (.int .i64 (c)) ∧ w'.cell? ⟨w.heap.size + 1 + 1 + 1, 0, none⟩ = some (.int .i64 (1)) ∧ w'.cell? ⟨w.heap.size + 1 + 1 + 1, 1, none⟩ = some (.int .i64 (T)) ∧ w'.cell? ⟨w.heap.size + 1 + 1 + 1, 2, none⟩ = some (.int .i64 (0)) ∧ w'.cell? ⟨w.heap.size + 1 + 1 + 1, 3, none⟩ = some (.int .i64 (1))) (first | (go_keep; done) | (go_simp; done)) ((go_at_call 36; (with_reducible refine (s_any2.out _ f1' f4 f5).mono ?_); rintro e h2 ⟨rfl, hb2⟩; have hcc := (calm_cells hb2).1; have hff := (calm_cells hb2).2; have hsz2 := hb2.size; (try simp at hsz2); have g2_0 := fun o => hcc (w.heap.size) o (by first | omega | (simp <;> omega)); have g2_1 := fun o => hff (w.heap.size) o (by first | omega | (simp <;> omega)); have g2_2 := fun o => hcc (w.heap.size + 1 + 1 + 1) o (by first | omega | (simp <;> omega)); have g2_3 := fun o => hff (w.heap.size + 1 + 1 + 1) o (by first | omega | (simp <;> omega)); have g2_4 := fun o => hcc (w.heap.size + 1) o (by first | omega | (simp <;> omega)); have g2_5 := fun o => hff (w.heap.size + 1) o (by first | omega | (simp <;> omega)); have g2_6 := fun o => hcc (w.heap.size + 1 + 1) o (by first | omega | (simp <;> omega)); have g2_7 := fun o => hff (w.heap.size + 1 + 1) o (by first | omega | (simp <;> omega)); clear hcc hff))
    go_wp2
    exact bodyPost_ret (v := .tuple #[.agg #[.int .i64 E, .int .i64 P2, .int .i64 R2], .agg #[.int .i64 1, .int .i64 T, .int .i64 0, .int .i64 1]]) (by simp [results, Tryz.results86, go_sem, *]) rfl ⟨rfl, (by repeat (first | with_reducible exact Below.refl _ _ | with_reducible assumption | with_reducible apply Below.drew | with_reducible apply below_drewN | (with_reducible apply below_setp; (first | omega | (simp <;> omega))) | (with_reducible apply below_allocp; (first | omega | (simp <;> omega))) | (with_reducible refine below_viap (by assumption) ?_ ?_; (first | omega | (simp <;> omega)))))⟩
  · have eS := h.eS
    have eQ := h.eQ
    unfold bezS at eS; unfold bezV at eQ
    rw [if_neg h0] at eS eQ
    have hc := fun w => inverse_c x y w (by omega) (by omega) h.hg
    rw [← eS] at hc
    have Hc := Lib.hid hc
    have b1 : 0 ≤ x * S := Int.mul_nonneg x0 s1
    have b2 : x * S ≤ 3 * 10 := Int.mul_le_mul x3 (by omega) s1 (by omega)
    have e0 : (x * S - 1).tdiv y = Q := by
      have e9 : x * S - 1 = y * Q := by have := Int.mul_neg y Q; omega
      rw [e9, Int.mul_tdiv_cancel_left _ h0]
    have ey : ((y.natAbs : Nat) : Int) = y := by omega
    have e1 : (y == 0) = false := by rw [beq_eq_false_iff_ne]; exact h0
    have g1 : E ≤ 20000 := heb
    clear h hfl hT hB bid eS eQ hc
    go_enter Tryz.func86, Tryz.ntmps86
    go_wp2_with (first
      | (go_at_call 117; (with_reducible refine (abs_any y _ (by omega) (by omega)).mono ?_); rintro e v ⟨rfl, rfl⟩)
      | (go_at_call 116; (with_reducible refine (Hc.out _).mono ?_); rintro e v ⟨rfl, rfl⟩)
      | (go_at_call 36; (with_reducible refine (s_any.out _ f1 f2 f3).mono ?_); rintro e v1 ⟨rfl, hB1⟩; have hZ1 := hB1.size; (try simp at hZ1); (try have zl1 : w.heap.size < v1.heap.size := by omega); (try have ze1 : w.heap.size ≤ v1.heap.size := by omega); (try have zn1 : ¬ w.heap.size = v1.heap.size := by omega); (try have zm1 : ¬ v1.heap.size = w.heap.size := by omega); have hA1 : Blk v1 (w.heap.size) 33 #[.int .i64 a, .int .i64 b, .int .i64 c] := Blk.call (by (repeat (first | with_reducible assumption | (with_reducible apply Blk.new_at; (first | rfl | (simp; done))) | with_reducible apply Blk.store3 | with_reducible apply Blk.store4 | (with_reducible apply Blk.farp; (first | omega | (simp <;> omega))) | with_reducible apply Blk.allocp | with_reducible apply Blk.drew | with_reducible apply Blk.drewN))) hB1; have cA1 := hA1.cell; have fA1 := hA1.frozen; have lA1 := hA1.lt; have mA1 := Nat.ne_of_gt lA1; have nA1 := Nat.ne_of_lt lA1; have hR1 : Blk v1 (w.heap.size + 1) 33 #[.int .i64 0, .int .i64 0, .int .i64 0] := Blk.call (by (repeat (first | with_reducible assumption | (with_reducible apply Blk.new_at; (first | rfl | (simp; done))) | with_reducible apply Blk.store3 | with_reducible apply Blk.store4 | (with_reducible apply Blk.farp; (first | omega | (simp <;> omega))) | with_reducible apply Blk.allocp | with_reducible apply Blk.drew | with_reducible apply Blk.drewN))) hB1; have cR1 := hR1.cell; have fR1 := hR1.frozen; have lR1 := hR1.lt; have mR1 := Nat.ne_of_gt lR1; have nR1 := Nat.ne_of_lt lR1; have hX1 : Blk v1 (w.heap.size + 1 + 1) 27 #[.int .i64 0, .int .i64 0, .int .i64 0, .int .i64 0] := Blk.call (by (repeat (first | with_reducible assumption | (with_reducible apply Blk.new_at; (first | rfl | (simp; done))) | with_reducible apply Blk.store3 | with_reducible apply Blk.store4 | (with_reducible apply Blk.farp; (first | omega | (simp <;> omega))) | with_reducible apply Blk.allocp | with_reducible apply Blk.drew | with_reducible apply Blk.drewN))) hB1; have cX1 := hX1.cell; have fX1 := hX1.frozen; have lX1 := hX1.lt; have mX1 := Nat.ne_of_gt lX1; have nX1 := Nat.ne_of_lt lX1; have hM1 : Blk v1 (w.heap.size + 1 + 1 + 1) 27 #[.int .i64 x, .int .i64 Q, .int .i64 y, .int .i64 S] := Blk.call (by (repeat (first | with_reducible assumption | (with_reducible apply Blk.new_at; (first | rfl | (simp; done))) | with_reducible apply Blk.store3 | with_reducible apply Blk.store4 | (with_reducible apply Blk.farp; (first | omega | (simp <;> omega))) | with_reducible apply Blk.allocp | with_reducible apply Blk.drew | with_reducible apply Blk.drewN))) hB1; have cM1 := hM1.cell; have fM1 := hM1.frozen; have lM1 := hM1.lt; have mM1 := Nat.ne_of_gt lM1; have nM1 := Nat.ne_of_lt lM1)
      | (go_at_call 114; (with_reducible refine (Hfl.out _).mono ?_); rintro e v ⟨rfl, rfl⟩))
    clear s_any Hfl hA1 hR1 hX1 hM1 f1 f2 f3
    have k2 : ¬ w.heap.size = w.heap.size + 1 + 1 := by omega
    have k3 : ¬ w.heap.size + 1 + 1 = w.heap.size := by omega
    have k4 : ¬ w.heap.size + 1 + 1 + 1 = w.heap.size + 1 := by omega
    have k5 : ¬ w.heap.size + 1 = w.heap.size + 1 + 1 + 1 := by omega
    have k6 : ¬ w.heap.size = w.heap.size + 1 + 1 + 1 := by omega
    have k7 : ¬ w.heap.size + 1 + 1 + 1 = w.heap.size := by omega
    go_region_held3 (fun w' => w'.cell? ⟨w.heap.size, 0, none⟩ = some (.int .i64 (a)) ∧ w'.cell? ⟨w.heap.size, 1, none⟩ = some (.int .i64 (b)) ∧ w'.cell? ⟨w.heap.size, 2, none⟩ = some (.int .i64 (c)) ∧ w'.cell? ⟨w.heap.size + 1 + 1 + 1, 0, none⟩ = some (.int .i64 (x)) ∧ w'.cell? ⟨w.heap.size + 1 + 1 + 1, 1, none⟩ = some (.int .i64 (Q + T * x)) ∧ w'.cell? ⟨w.heap.size + 1 + 1 + 1, 2, none⟩ = some (.int .i64 (y)) ∧ w'.cell? ⟨w.heap.size + 1 + 1 + 1, 3, none⟩ = some (.int .i64 (S + T * y))) (first | (go_keep; done) | (go_simp; done)) ((go_at_call 36; (with_reducible refine (s_any2.out _ f1' f4 f5).mono ?_); rintro e h2 ⟨rfl, hb2⟩; have hcc := (calm_cells hb2).1; have hff := (calm_cells hb2).2; have hsz2 := hb2.size; (try simp at hsz2); have g2_0 := fun o => hcc (w.heap.size) o (by first | omega | (simp <;> omega)); have g2_1 := fun o => hff (w.heap.size) o (by first | omega | (simp <;> omega)); have g2_2 := fun o => hcc (w.heap.size + 1 + 1 + 1) o (by first | omega | (simp <;> omega)); have g2_3 := fun o => hff (w.heap.size + 1 + 1 + 1) o (by first | omega | (simp <;> omega)); have g2_4 := fun o => hcc (w.heap.size + 1) o (by first | omega | (simp <;> omega)); have g2_5 := fun o => hff (w.heap.size + 1) o (by first | omega | (simp <;> omega)); have g2_6 := fun o => hcc (w.heap.size + 1 + 1) o (by first | omega | (simp <;> omega)); have g2_7 := fun o => hff (w.heap.size + 1 + 1) o (by first | omega | (simp <;> omega)); clear hcc hff))
    go_wp2
    exact bodyPost_ret (v := .tuple #[.agg #[.int .i64 E, .int .i64 P2, .int .i64 R2], .agg #[.int .i64 x, .int .i64 (Q + T * x), .int .i64 y, .int .i64 (S + T * y)]]) (by simp [results, Tryz.results86, go_sem, *]) rfl ⟨rfl, (by repeat (first | with_reducible exact Below.refl _ _ | with_reducible assumption | with_reducible apply Below.drew | with_reducible apply below_drewN | (with_reducible apply below_setp; (first | omega | (simp <;> omega))) | (with_reducible apply below_allocp; (first | omega | (simp <;> omega))) | (with_reducible refine below_viap (by assumption) ?_ ?_; (first | omega | (simp <;> omega)))))⟩
end

section
open Go.RowKit

theorem CoD.D_bd {a b c x y S Q T : Int} (h : CoD a b c x y S Q T) : (Far (b * b) ∧ Far (4 * a) ∧ Far (4 * a * c)) ∧ (-1000000 ≤ disc ⟨a, b, c⟩ ∧ disc ⟨a, b, c⟩ ≤ 1000000) := by
  obtain ⟨a1, a2⟩ := h.ha; obtain ⟨b1, b2⟩ := h.hb; obtain ⟨c1, c2⟩ := h.hc
  have k1 := mul_bd (a := b) (x := b) (A := 100) (X := 100) (by omega) (by omega) (by omega) (by omega)
  have k2 := mul_bd (a := 4 * a) (x := c) (A := 400) (X := 1100) (by omega) (by omega) (by omega) (by omega)
  refine ⟨⟨⟨by omega, by omega⟩, ⟨by omega, by omega⟩, ⟨by omega, by omega⟩⟩, ?_⟩
  simp only [disc]; omega

set_option maxRecDepth 100000 in
set_option maxHeartbeats 1600000 in
theorem vaComplete_any (a b c x y S Q T : Int) (w : World) (h : CoD a b c x y S Q T) :
    Calls Tryz.prog 119 #[.agg #[.int .i64 a, .int .i64 b, .int .i64 c], .int .i64 x, .int .i64 y] w fun e w' =>
      e = .returned (.tuple #[.agg #[.int .i64 (atF a b c x y), .int .i64 (polF a b c x y (Q + T * x) (S + T * y)), .int .i64 (atF a b c (Q + T * x) (S + T * y))], .agg #[.int .i64 x, .int .i64 (Q + T * x), .int .i64 y, .int .i64 (S + T * y)]]) ∧ Below w.heap.size w w' := by
  obtain ⟨⟨q1, q2⟩, ⟨t1, t2⟩, ⟨m1, m2⟩, ⟨n1, n2⟩⟩ := h.qt
  obtain ⟨hb1, hb2⟩ := h.B0
  have heb := h.e_bd
  have he := h.he
  obtain ⟨T1, T2⟩ := h.T_bd
  obtain ⟨x0, x3⟩ := h.hx; obtain ⟨y0, y3⟩ := h.hy
  obtain ⟨bid, s1, s2, v1, v2⟩ := h.bez
  obtain ⟨⟨d1, d2, d3⟩, D1, D2⟩ := h.D_bd
  obtain ⟨p1, p2⟩ := h.hb0
  have f1 := at_wide h.ha h.hb h.hc (u := x) (v := y) (by omega) (by omega)
  have f2 := pol_wide h.ha h.hb h.hc h.hx h.hy (u := Q) (v := S) (by omega) (by omega)
  have hT := h.eT
  have hBz := Lib.hid (fun w => nuBezout_any x y S (-Q) w h.hx h.hy h.hg h.eS h.eQ)
  have hVal := Lib.hid (fun w => foValue_any a b c x y w f1)
  have hPol := Lib.hid (fun w => foPolar_any a b c x y Q S w f2)
  have hDis := Lib.hid (fun w => sdisc_any a b c w d1 d2 d3)
  have hat := at_disc (a := a) (b := b) (c := c) h.det
  have hsh := pol_shift a b c x y Q S T
  generalize disc ⟨a, b, c⟩ = D at *
  generalize atF a b c x y = E at *
  generalize polF a b c x y Q S = P at *
  generalize polF a b c x y (Q + T * x) (S + T * y) = P2 at *
  generalize atF a b c (Q + T * x) (S + T * y) = R2 at *
  have eE : (2 * E == 0) = false := by rw [beq_eq_false_iff_ne]; omega
  have eE2 : ¬ 2 * E = 0 := by omega
  have eF : (4 * E == 0) = false := by rw [beq_eq_false_iff_ne]; omega
  have eF2 : ¬ 4 * E = 0 := by omega
  have em := Int.emod_add_mul_ediv P (2 * E)
  have em1 := Int.emod_nonneg P eE2
  have em2 := Int.emod_lt_of_pos P (show 0 < 2 * E by omega)
  have eT2 : (P % (2 * E) - P).tdiv (2 * E) = T := by
    have : P % (2 * E) - P = 2 * E * T := by rw [hT, Int.mul_neg]; omega
    rw [this, Int.mul_tdiv_cancel_left _ eE2]
  have eP : P + 2 * E * T = P2 := by rw [hsh]; grind
  have eT3 : -100000000000 ≤ 2 * E * T ∧ 2 * E * T ≤ 100000000000 := by omega
  obtain ⟨eT3, eT4⟩ := eT3
  have eR : (P2 * P2 - D).tdiv (4 * E) = R2 := by
    have : P2 * P2 - D = 4 * E * R2 := by omega
    rw [this, Int.mul_tdiv_cancel_left _ eF2]
  have ePP := mul_bd (a := P2) (x := P2) (A := 40000) (X := 40000) (by omega) (by omega) (by omega) (by omega)
  obtain ⟨pp1, pp2⟩ := ePP
  have hR2 : -10000000000 ≤ R2 ∧ R2 ≤ 10000000000 := by rw [← eR]; exact tdiv_bd (by omega) (by omega)
  obtain ⟨r1, r2⟩ := hR2
  have w1 : IntKind.i64.wrap (P2 * P2) = P2 * P2 := IntWalk.i64_in _ (by omega)
  have w2 : IntKind.i64.wrap (P2 * P2 - D) = P2 * P2 - D := IntWalk.i64_in _ (by omega)
  have w3 : IntKind.i64.wrap (4 * E) = 4 * E := IntWalk.i64_in _ (by omega)
  have w4 : IntKind.i64.wrap R2 = R2 := IntWalk.i64_in _ (by omega)
  have ex1 : x * T = T * x := Int.mul_comm _ _
  have ex2 : y * T = T * y := Int.mul_comm _ _
  clear h hT hat hsh bid em f1 f2 d1 d2 d3
  go_enter Tryz.func119, Tryz.ntmps119
  go_wp2_with (first
    | (go_at_call 139; (with_reducible refine (hBz.out _).mono ?_); rintro e v1 ⟨rfl, hB1⟩; have hZ1 := hB1.size; (try simp at hZ1); (try have zl1 : w.heap.size < v1.heap.size := by omega); (try have ze1 : w.heap.size ≤ v1.heap.size := by omega); (try have zn1 : ¬ w.heap.size = v1.heap.size := by omega); (try have zm1 : ¬ v1.heap.size = w.heap.size := by omega); have hC1_0 := fun o => (calm_cells hB1).1 (w.heap.size) o (by first | omega | (simp <;> omega)); have hF1_0 := fun o => (calm_cells hB1).2 (w.heap.size) o (by first | omega | (simp <;> omega)); (try have hl1_0 : w.heap.size < v1.heap.size := by omega); (try have hm1_0 : ¬ w.heap.size = v1.heap.size := by omega); (try have hn1_0 : ¬ v1.heap.size = w.heap.size := by omega); have hC1_1 := fun o => (calm_cells hB1).1 (w.heap.size + 1) o (by first | omega | (simp <;> omega)); have hF1_1 := fun o => (calm_cells hB1).2 (w.heap.size + 1) o (by first | omega | (simp <;> omega)); (try have hl1_1 : w.heap.size + 1 < v1.heap.size := by omega); (try have hm1_1 : ¬ w.heap.size + 1 = v1.heap.size := by omega); (try have hn1_1 : ¬ v1.heap.size = w.heap.size + 1 := by omega); have hC1_2 := fun o => (calm_cells hB1).1 (w.heap.size + 1 + 1) o (by first | omega | (simp <;> omega)); have hF1_2 := fun o => (calm_cells hB1).2 (w.heap.size + 1 + 1) o (by first | omega | (simp <;> omega)); (try have hl1_2 : w.heap.size + 1 + 1 < v1.heap.size := by omega); (try have hm1_2 : ¬ w.heap.size + 1 + 1 = v1.heap.size := by omega); (try have hn1_2 : ¬ v1.heap.size = w.heap.size + 1 + 1 := by omega))
    | (go_at_call 136; (with_reducible refine (hVal.out _).mono ?_); rintro e v2 ⟨rfl, hB2⟩; have hZ2 := hB2.size; (try simp at hZ2); (try have zl2 : w.heap.size < v2.heap.size := by omega); (try have ze2 : w.heap.size ≤ v2.heap.size := by omega); (try have zn2 : ¬ w.heap.size = v2.heap.size := by omega); (try have zm2 : ¬ v2.heap.size = w.heap.size := by omega); have hC2_0 := fun o => (calm_cells hB2).1 (w.heap.size) o (by first | omega | (simp <;> omega)); have hF2_0 := fun o => (calm_cells hB2).2 (w.heap.size) o (by first | omega | (simp <;> omega)); (try have hl2_0 : w.heap.size < v2.heap.size := by omega); (try have hm2_0 : ¬ w.heap.size = v2.heap.size := by omega); (try have hn2_0 : ¬ v2.heap.size = w.heap.size := by omega); have hC2_1 := fun o => (calm_cells hB2).1 (w.heap.size + 1) o (by first | omega | (simp <;> omega)); have hF2_1 := fun o => (calm_cells hB2).2 (w.heap.size + 1) o (by first | omega | (simp <;> omega)); (try have hl2_1 : w.heap.size + 1 < v2.heap.size := by omega); (try have hm2_1 : ¬ w.heap.size + 1 = v2.heap.size := by omega); (try have hn2_1 : ¬ v2.heap.size = w.heap.size + 1 := by omega); have hC2_2 := fun o => (calm_cells hB2).1 (w.heap.size + 1 + 1) o (by first | omega | (simp <;> omega)); have hF2_2 := fun o => (calm_cells hB2).2 (w.heap.size + 1 + 1) o (by first | omega | (simp <;> omega)); (try have hl2_2 : w.heap.size + 1 + 1 < v2.heap.size := by omega); (try have hm2_2 : ¬ w.heap.size + 1 + 1 = v2.heap.size := by omega); (try have hn2_2 : ¬ v2.heap.size = w.heap.size + 1 + 1 := by omega))
    | (go_at_call 137; (with_reducible refine (hPol.out _).mono ?_); rintro e v3 ⟨rfl, hB3⟩; have hZ3 := hB3.size; (try simp at hZ3); (try have zl3 : w.heap.size < v3.heap.size := by omega); (try have ze3 : w.heap.size ≤ v3.heap.size := by omega); (try have zn3 : ¬ w.heap.size = v3.heap.size := by omega); (try have zm3 : ¬ v3.heap.size = w.heap.size := by omega); have hC3_0 := fun o => (calm_cells hB3).1 (w.heap.size) o (by first | omega | (simp <;> omega)); have hF3_0 := fun o => (calm_cells hB3).2 (w.heap.size) o (by first | omega | (simp <;> omega)); (try have hl3_0 : w.heap.size < v3.heap.size := by omega); (try have hm3_0 : ¬ w.heap.size = v3.heap.size := by omega); (try have hn3_0 : ¬ v3.heap.size = w.heap.size := by omega); have hC3_1 := fun o => (calm_cells hB3).1 (w.heap.size + 1) o (by first | omega | (simp <;> omega)); have hF3_1 := fun o => (calm_cells hB3).2 (w.heap.size + 1) o (by first | omega | (simp <;> omega)); (try have hl3_1 : w.heap.size + 1 < v3.heap.size := by omega); (try have hm3_1 : ¬ w.heap.size + 1 = v3.heap.size := by omega); (try have hn3_1 : ¬ v3.heap.size = w.heap.size + 1 := by omega); have hC3_2 := fun o => (calm_cells hB3).1 (w.heap.size + 1 + 1) o (by first | omega | (simp <;> omega)); have hF3_2 := fun o => (calm_cells hB3).2 (w.heap.size + 1 + 1) o (by first | omega | (simp <;> omega)); (try have hl3_2 : w.heap.size + 1 + 1 < v3.heap.size := by omega); (try have hm3_2 : ¬ w.heap.size + 1 + 1 = v3.heap.size := by omega); (try have hn3_2 : ¬ v3.heap.size = w.heap.size + 1 + 1 := by omega))
    | (go_at_call 95; (with_reducible refine (nuMod_any P (2 * E) _ (by omega) (by omega)).mono ?_); rintro e v ⟨rfl, rfl⟩))
  clear hBz hVal hPol
  have k2 : ¬ w.heap.size = w.heap.size + 1 + 1 := by omega
  have k3 : ¬ w.heap.size + 1 + 1 = w.heap.size := by omega
  go_region_held3 (fun w' => w'.cell? ⟨w.heap.size, 0, none⟩ = some (.int .i64 (a)) ∧ w'.cell? ⟨w.heap.size, 1, none⟩ = some (.int .i64 (b)) ∧ w'.cell? ⟨w.heap.size, 2, none⟩ = some (.int .i64 (c)) ∧ w'.cell? ⟨v3.heap.size, 0, none⟩ = some (.int .i64 (x)) ∧ w'.cell? ⟨v3.heap.size, 1, none⟩ = some (.int .i64 (Q + T * x)) ∧ w'.cell? ⟨v3.heap.size, 2, none⟩ = some (.int .i64 (y)) ∧ w'.cell? ⟨v3.heap.size, 3, none⟩ = some (.int .i64 (S + T * y))) (first | (go_keep; done) | (go_simp; done)) ((go_at_call 78; (with_reducible refine (hDis.out _).mono ?_); rintro e h4 ⟨rfl, hb4⟩; have hcc := (calm_cells hb4).1; have hff := (calm_cells hb4).2; have hsz4 := hb4.size; (try simp at hsz4); have g4_0 := fun o => hcc (w.heap.size) o (by first | omega | (simp <;> omega)); have g4_1 := fun o => hff (w.heap.size) o (by first | omega | (simp <;> omega)); have g4_2 := fun o => hcc (v3.heap.size) o (by first | omega | (simp <;> omega)); have g4_3 := fun o => hff (v3.heap.size) o (by first | omega | (simp <;> omega)); have g4_4 := fun o => hcc (w.heap.size + 1) o (by first | omega | (simp <;> omega)); have g4_5 := fun o => hff (w.heap.size + 1) o (by first | omega | (simp <;> omega)); have g4_6 := fun o => hcc (w.heap.size + 1 + 1) o (by first | omega | (simp <;> omega)); have g4_7 := fun o => hff (w.heap.size + 1 + 1) o (by first | omega | (simp <;> omega)); clear hcc hff))
  go_wp2
  exact bodyPost_ret (v := .tuple #[.agg #[.int .i64 E, .int .i64 P2, .int .i64 R2], .agg #[.int .i64 x, .int .i64 (Q + T * x), .int .i64 y, .int .i64 (S + T * y)]]) (by simp [results, Tryz.results119, go_sem, *]) rfl ⟨rfl, (by repeat (first | with_reducible exact Below.refl _ _ | with_reducible assumption | with_reducible apply Below.drew | with_reducible apply below_drewN | (with_reducible apply below_setp; (first | omega | (simp <;> omega))) | (with_reducible apply below_allocp; (first | omega | (simp <;> omega))) | (with_reducible refine below_viap (by assumption) ?_ ?_; (first | omega | (simp <;> omega)))))⟩
end

section
open Go.RowKit

structure UD (d : Int) (f g : Fm) (x y S Q T e h k b c t1 t2 : Int) : Prop where
  D : Dsc d
  hf : f ∈ clsL d
  hg : g ∈ clsL d
  pt : MinPt (Good g.a g.b g.c f.a) x y
  co : CoD g.a g.b g.c x y S Q T
  ee : e = atF g.a g.b g.c x y
  eh : h = polF g.a g.b g.c x y (Q + T * x) (S + T * y)
  ek : k = atF g.a g.b g.c (Q + T * x) (S + T * y)
  b0 : 0 ≤ b
  b1 : b < 2 * (f.a * e)
  t1 : b = f.b + 2 * (f.a * t1)
  t2 : b = h + 2 * (e * t2)
  hc : b * b - d = 4 * (f.a * e) * c

theorem atF_eq (a b c x y : Int) : atF a b c x y = a * (x * x) + b * (x * y) + c * (y * y) := by unfold atF; grind
theorem cls_bd {d : Int} {f : Fm} (h1 : -2000 ≤ d) (hf : f ∈ clsL d) : (1 ≤ f.a ∧ f.a ≤ 26) ∧ (-26 ≤ f.b ∧ f.b ≤ 26) ∧ (1 ≤ f.c ∧ f.c ≤ 1000) := by
  have ha := cls_a h1 hf
  obtain ⟨⟨f1, _, f3, f4, f5, f6, f7⟩, _⟩ := mem_clsL h1 hf
  have := (isRed_iff _ _ _).1 f4
  exact ⟨⟨f1, ha⟩, ⟨by omega, by omega⟩, ⟨by omega, f7⟩⟩
theorem good_ex {d : Int} {f g : Fm} (h1 : -2000 ≤ d) (hf : f ∈ clsL d) (hg : g ∈ clsL d) : ∃ X Y S : Int, (0 ≤ X ∧ X ≤ S) ∧ (0 ≤ Y ∧ Y ≤ S) ∧ S ≤ 3 ∧ 1 ≤ S ∧ Good g.a g.b g.c f.a X Y := by
  obtain ⟨⟨a1, a2⟩, _, _⟩ := cls_bd h1 hf
  obtain ⟨_, g5⟩ := mem_clsL h1 hg
  obtain ⟨x, y, hx, hy, hxy, hv⟩ := pt_int (a := f.a) (by omega) a2 g5
  refine ⟨x, y, max x y, ⟨hx.1, by omega⟩, ⟨hy.1, by omega⟩, by omega, ?_, hxy, by rw [atF_eq]; exact hv⟩
  apply Int.not_lt.1; intro hl
  have e1 : x = 0 := by omega
  have e2 : y = 0 := by omega
  rw [e1, e2] at hxy; simp at hxy
theorem good_min {G : Int → Int → Prop} : ∀ (n : Nat) {X Y : Int}, 0 ≤ X → 0 ≤ Y → max X Y = n → G X Y → ∃ x y, MinPt G x y ∧ max x y ≤ n := by
  -- by the well order of the points: least max, then least x, then least y
  classical
  intro n X Y hX hY hn hg
  have e1 : ∃ m : Nat, ∃ X Y : Int, 0 ≤ X ∧ 0 ≤ Y ∧ max X Y = m ∧ G X Y := ⟨n, X, Y, hX, hY, hn, hg⟩
  have least : ∀ (p : Nat → Prop), (∃ m, p m) → ∃ m, p m ∧ ∀ j, j < m → ¬ p j := by
    intro p ⟨m, hm⟩
    induction m using Nat.strongRecOn with
    | ind m ih =>
      by_cases h : ∃ j, j < m ∧ p j
      · obtain ⟨j, h1, h2⟩ := h; exact ih j h1 h2
      · exact ⟨m, hm, fun j hj hp => h ⟨j, hj, hp⟩⟩
  obtain ⟨m, ⟨X1, Y1, a1, a2, a3, a4⟩, hm⟩ := least _ e1
  obtain ⟨x, ⟨Y2, b2, b3, b4⟩, hx⟩ := least (fun x => ∃ Y : Int, 0 ≤ Y ∧ max (x : Int) Y = m ∧ G x Y) ⟨X1.toNat, Y1, a2, by omega, by rw [show ((X1.toNat : Nat) : Int) = X1 by omega]; exact a4⟩
  obtain ⟨y, ⟨c3, c4⟩, hy⟩ := least (fun y => max (x : Int) (y : Int) = m ∧ G x y) ⟨Y2.toNat, by omega, by rw [show ((Y2.toNat : Nat) : Int) = Y2 by omega]; exact b4⟩
  have hmn : m ≤ n := by
    apply Nat.not_lt.1; intro hl
    exact hm n hl ⟨X, Y, hX, hY, hn, hg⟩
  refine ⟨x, y, ⟨by omega, by omega, c4, ?_⟩, by omega⟩
  intro x' y' h1 h2 h3 h4
  rw [c3] at h3
  rcases h3 with h3 | ⟨h3, h5⟩
  · exact hm (max x' y').toNat (by omega) ⟨x', y', h1, h2, by omega, h4⟩
  · rcases h5 with h5 | ⟨h5, h6⟩
    · exact hx x'.toNat (by omega) ⟨y', h2, by omega, by rw [show ((x'.toNat : Nat) : Int) = x' by omega]; exact h4⟩
    · exact hy y'.toNat (by omega) ⟨by omega, by rw [show ((y'.toNat : Nat) : Int) = y' by omega, ← h5]; exact h4⟩

theorem ud_ex {d : Int} {f g : Fm} (D : Dsc d) (hf : f ∈ clsL d) (hg : g ∈ clsL d) : ∃ x y S Q T e h k b c t1 t2, UD d f g x y S Q T e h k b c t1 t2 := by
  obtain ⟨⟨a1, a2⟩, ⟨fb1, fb2⟩, ⟨fc1, fc2⟩⟩ := cls_bd D.lo hf
  obtain ⟨⟨A1, A2⟩, ⟨B1, B2⟩, ⟨C1, C2⟩⟩ := cls_bd D.lo hg
  obtain ⟨⟨_, _, f3, f4, _⟩, f5⟩ := mem_clsL D.lo hf
  obtain ⟨⟨_, _, g3, g4, _⟩, g5⟩ := mem_clsL D.lo hg
  obtain ⟨X, Y, S0, hX, hY, hS, hS1, hgd⟩ := good_ex D.lo hf hg
  obtain ⟨x, y, hpt, hmx⟩ := good_min (max X Y).toNat hX.1 hY.1 (by omega) hgd
  have hpt' := hpt
  obtain ⟨x0, y0, ⟨hxy, hv⟩, _⟩ := hpt
  have hx3 : x ≤ 3 := by omega
  have hy3 : y ≤ 3 := by omega
  have hbz := bez_ok ⟨x0, hx3⟩ ⟨y0, hy3⟩ hxy
  generalize hS : bezS x y = S at hbz
  generalize hV : bezV x y = V at hbz
  have he0 : 0 < atF g.a g.b g.c x y := by
    have := (fv_min (g := g) (p := x) (r := -y) (by omega) (by have := (isRed_iff _ _ _).1 g4; omega) (by have := (isRed_iff _ _ _).1 g4; omega) (by have := (isRed_iff _ _ _).1 g4; omega) (by
      rintro ⟨h1, h2⟩
      have h3 : y = 0 := by omega
      rw [h1, h3] at hxy; simp at hxy)).1
    have e2 : fv g x (-y) = atF g.a g.b g.c x y := by unfold fv atF; grind
    omega
  have co : CoD g.a g.b g.c x y S (-V) (-(polF g.a g.b g.c x y (-V) S / (2 * atF g.a g.b g.c x y))) :=
    ⟨by omega, by omega, by omega, ⟨x0, hx3⟩, ⟨y0, hy3⟩, hxy, he0, by rw [Int.neg_neg]; exact hbz, hS.symm, by rw [Int.neg_neg]; exact hV.symm, rfl⟩
  generalize -(polF g.a g.b g.c x y (-V) S / (2 * atF g.a g.b g.c x y)) = T at co
  generalize hQ : -V = Q at co
  obtain ⟨l, m, hlm⟩ := bez (atF g.a g.b g.c x y) f.a
  rw [hv] at hlm
  have hdet := co.det
  have U0 : ∀ b t1 t2, b = f.b + 2 * (f.a * t1) → b = polF g.a g.b g.c x y (Q + T * x) (S + T * y) + 2 * (atF g.a g.b g.c x y * t2) → Uni f g x y (Q + T * x) (S + T * y) (atF g.a g.b g.c x y) (polF g.a g.b g.c x y (Q + T * x) (S + T * y)) (atF g.a g.b g.c (Q + T * x) (S + T * y)) b t1 t2 m l :=
    fun b t1 t2 e1 e2 => ⟨hdet, atF_eq _ _ _ _ _, by unfold polF; grind, atF_eq _ _ _ _ _, e1, e2, by simp at hlm; omega⟩
  have dh := (U0 (f.b + 2 * (f.a * 0)) 0 0 rfl)
  have p1 := hF_two (s := sD d) (n := nD d) (f := f) (by have := sn D.md; omega)
  have dd : disc ⟨atF g.a g.b g.c x y, polF g.a g.b g.c x y (Q + T * x) (S + T * y), atF g.a g.b g.c (Q + T * x) (S + T * y)⟩ = d := by
    have := at_disc (a := g.a) (b := g.b) (c := g.c) hdet
    have e9 : disc ⟨g.a, g.b, g.c⟩ = d := g3
    rw [e9] at this
    simp only [disc]; omega
  have p2 := hF_two (s := sD d) (n := nD d) (f := ⟨atF g.a g.b g.c x y, polF g.a g.b g.c x y (Q + T * x) (S + T * y), atF g.a g.b g.c (Q + T * x) (S + T * y)⟩) (by have := sn D.md; omega)
  simp only at p2
  generalize hm : hF (sD d) ⟨atF g.a g.b g.c x y, polF g.a g.b g.c x y (Q + T * x) (S + T * y), atF g.a g.b g.c (Q + T * x) (S + T * y)⟩ - hF (sD d) f = z at *
  have hbm : polF g.a g.b g.c x y (Q + T * x) (S + T * y) = f.b + 2 * z := by omega
  have ee : ∃ e, e = atF g.a g.b g.c x y := ⟨_, rfl⟩
  obtain ⟨e, ee⟩ := ee
  have eh : ∃ h, h = polF g.a g.b g.c x y (Q + T * x) (S + T * y) := ⟨_, rfl⟩
  obtain ⟨h, eh⟩ := eh
  rw [← ee] at U0 hlm he0
  rw [← eh] at U0 hbm
  have hlk1 : m * f.a = 1 - l * e := by simp at hlm; omega
  have hA : 0 < f.a * e := Int.mul_pos (by omega) he0
  -- the residue
  generalize hr : (f.b + 2 * (f.a * (m * z))) / (2 * (f.a * e)) = r
  have hr1 := Int.emod_add_mul_ediv (f.b + 2 * (f.a * (m * z))) (2 * (f.a * e))
  have hr2 := Int.emod_nonneg (f.b + 2 * (f.a * (m * z))) (show 2 * (f.a * e) ≠ 0 by omega)
  have hr3 := Int.emod_lt_of_pos (f.b + 2 * (f.a * (m * z))) (show 0 < 2 * (f.a * e) by omega)
  rw [hr] at hr1
  generalize (f.b + 2 * (f.a * (m * z))) % (2 * (f.a * e)) = b at *
  have q1 : b = f.b + 2 * (f.a * (m * z - e * r)) := by grind
  have q2 : b = h + 2 * (e * (-(l * z) - f.a * r)) := by
    have e1 : f.a * (m * z) = m * f.a * z := by grind
    rw [e1, hlk1] at hr1
    rw [hbm]; grind
  have U := U0 b _ _ q1 q2
  obtain ⟨c, hc1, _, _⟩ := U.c (f3.trans g3.symm)
  rw [f3] at hc1
  exact ⟨x, y, S, Q, T, e, h, _, b, c, _, _, ⟨D, hf, hg, hpt', co, ee, eh, rfl, hr2, hr3, q1, q2, hc1⟩⟩
end

section
open Go.RowKit

variable {d : Int} {f g : Fm} {x y S Q T e h k b c t1 t2 : Int}
theorem UD.e_pos (u : UD d f g x y S Q T e h k b c t1 t2) : 0 < e ∧ e ≤ 20000 := by
  have h1 := u.co.he; have h2 := u.co.e_bd; rw [u.ee]; exact ⟨h1, h2⟩
theorem UD.h_bd (u : UD d f g x y S Q T e h k b c t1 t2) : 0 ≤ h ∧ h < 2 * e := by
  have h1 := u.co.hb0; rw [u.eh, u.ee]; exact h1
theorem UD.cop (u : UD d f g x y S Q T e h k b c t1 t2) : Int.gcd f.a e = 1 := by
  rw [Int.gcd_comm, u.ee]; exact u.pt.2.2.1.2
theorem UD.ae (u : UD d f g x y S Q T e h k b c t1 t2) : 1 ≤ f.a * e ∧ f.a * e ≤ 520000 := by
  obtain ⟨⟨a1, a2⟩, _, _⟩ := cls_bd u.D.lo u.hf
  obtain ⟨e1, e2⟩ := u.e_pos
  have h1 : 0 < f.a * e := Int.mul_pos (by omega) e1
  have h2 : f.a * e ≤ 26 * 20000 := Int.mul_le_mul a2 e2 (by omega) (by omega)
  omega
theorem UD.c_bd (u : UD d f g x y S Q T e h k b c t1 t2) : 0 < c ∧ c ≤ 1000000 := by
  obtain ⟨a1, a2⟩ := u.ae
  have b0 := u.b0
  have b1 := u.b1
  have hc := u.hc
  have d1 := u.D.lo; have d2 := u.D.hi
  have e1 : 4 * (f.a * e) * c = 4 * (f.a * e * c) := Int.mul_assoc _ _ _
  generalize f.a * e = m at *
  have hb2 : b * b < 4 * (m * c) := by omega
  have c0 := c_of_disc (by omega) hb2
  refine ⟨c0, ?_⟩
  apply Int.not_lt.1; intro hl
  have h1 : b * b ≤ 2 * m * (2 * m) := Int.mul_le_mul (by omega) (by omega) (by omega) (by omega)
  have h2 : m * 1000001 ≤ m * c := Int.mul_le_mul_of_nonneg_left (by omega) (by omega)
  have h3 : m * m ≤ m * 520000 := Int.mul_le_mul_of_nonneg_left (by omega) (by omega)
  have h4 : 2 * m * (2 * m) = 4 * (m * m) := by grind
  omega
theorem UD.dfn (u : UD d f g x y S Q T e h k b c t1 t2) : Def M0 ⟨f.a * e, b, c⟩ := by
  obtain ⟨a1, a2⟩ := u.ae
  obtain ⟨c1, c2⟩ := u.c_bd
  have hc := u.hc
  have d2 := u.D.hi
  have e1 : 4 * (f.a * e) * c = 4 * (f.a * e * c) := Int.mul_assoc _ _ _
  unfold M0
  exact ⟨by show 0 < f.a * e; omega, by show f.a * e ≤ _; omega, c1, by show c ≤ _; omega, by show b * b < 4 * (f.a * e * c); omega⟩
theorem UD.cmp (u : UD d f g x y S Q T e h k b c t1 t2) : red ⟨f.a * e, b, c⟩ = cmp d f g := by
  obtain ⟨l, m, hlm⟩ := bez f.a e
  rw [u.cop] at hlm
  have U : Uni f g x y (Q + T * x) (S + T * y) e h k b t1 t2 l m :=
    ⟨u.co.det, by rw [u.ee]; exact atF_eq _ _ _ _ _, by rw [u.eh]; unfold polF; grind, by rw [u.ek]; exact atF_eq _ _ _ _ _, u.t1, u.t2, by simpa using hlm⟩
  exact (u.D.of (U.cmp u.D.lo u.D.md u.hf u.hg u.e_pos.1 u.hc u.dfn)).symm
/-- Two residues of one number. -/
theorem UD.crt (u : UD d f g x y S Q T e h k b c t1 t2) {b' : Int} (h0 : 0 ≤ b') (h1 : b' < 2 * (f.a * e)) (d1 : 2 * f.a ∣ b' - b) (d2 : 2 * e ∣ b' - b) : b' = b := by
  obtain ⟨v, hv⟩ := d1
  have e1 : 2 * e ∣ 2 * (f.a * v) := by rw [hv] at d2; have e9 : 2 * f.a * v = 2 * (f.a * v) := Int.mul_assoc _ _ _; rwa [e9] at d2
  have e2 : e ∣ f.a * v := Int.dvd_of_mul_dvd_mul_left (by omega) e1
  have e3 : e ∣ v := by
    rw [← Int.natAbs_dvd_natAbs, Int.natAbs_mul] at e2
    rw [← Int.natAbs_dvd_natAbs]
    exact Nat.Coprime.dvd_of_dvd_mul_left (show Nat.Coprime e.natAbs f.a.natAbs by unfold Nat.Coprime; rw [Nat.gcd_comm]; exact u.cop) e2
  obtain ⟨z, hz⟩ := e3
  have e4 : b' - b = 2 * (f.a * e) * z := by rw [hv, hz]; grind
  have b0 := u.b0
  have b1 := u.b1
  have a1 := u.ae.1
  generalize f.a * e = m at *
  have z0 : z = 0 := by
    rcases Int.lt_trichotomy z 0 with hl | hl | hl
    · have : 2 * m * z ≤ 2 * m * (-1) := Int.mul_le_mul_of_nonneg_left (by omega) (by omega)
      omega
    · exact hl
    · have : 2 * m * 1 ≤ 2 * m * z := Int.mul_le_mul_of_nonneg_left (by omega) (by omega)
      omega
  rw [z0] at e4; simp at e4; omega
/-- The search for b. -/
theorem UD.start (u : UD d f g x y S Q T e h k b c t1 t2) : ∃ N : Nat, (N : Int) ≤ 20000 ∧ b = f.b % (2 * f.a) + 2 * f.a * N ∧ (b - h) % (2 * e) = 0 ∧ ∀ j : Nat, j < N → ¬ (f.b % (2 * f.a) + 2 * f.a * j - h) % (2 * e) = 0 := by
  obtain ⟨⟨a1, a2⟩, _, _⟩ := cls_bd u.D.lo u.hf
  obtain ⟨e1, e2⟩ := u.e_pos
  have b0 := u.b0
  have b1 := u.b1
  have m1 := Int.emod_add_mul_ediv b (2 * f.a)
  have m0 : b % (2 * f.a) = f.b % (2 * f.a) := by
    rw [u.t1, ← Int.mul_assoc]; exact Int.add_mul_emod_self_left _ _ _
  have m2 := Int.emod_nonneg b (show 2 * f.a ≠ 0 by omega)
  have m3 := Int.emod_lt_of_pos b (show 0 < 2 * f.a by omega)
  have m4 : 0 ≤ b / (2 * f.a) := Int.ediv_nonneg b0 (by omega)
  rw [m0] at m1 m2 m3
  have m5 : b / (2 * f.a) < e := by
    apply Int.ediv_lt_of_lt_mul (by omega)
    have : e * (2 * f.a) = 2 * (f.a * e) := by grind
    omega
  have hbh : (b - h) % (2 * e) = 0 := by
    apply Int.emod_eq_zero_of_dvd
    exact ⟨t2, by have := u.t2; have := Int.mul_assoc 2 e t2; omega⟩
  refine ⟨(b / (2 * f.a)).toNat, by omega, by rw [Int.toNat_of_nonneg m4]; omega, hbh, ?_⟩
  intro j hj h0
  have hj' : (j : Int) < b / (2 * f.a) := by omega
  have k1 : 2 * f.a * j ≤ 2 * f.a * (b / (2 * f.a)) := Int.mul_le_mul_of_nonneg_left (by omega) (by omega)
  have k0 : 0 ≤ 2 * f.a * (j : Int) := Int.mul_nonneg (by omega) (by omega)
  have := u.crt (b' := f.b % (2 * f.a) + 2 * f.a * j) (by omega) (by omega) ⟨j - b / (2 * f.a), by rw [Int.mul_sub]; omega⟩ (by
    have d1 := Int.dvd_of_emod_eq_zero h0
    have d2 := Int.dvd_of_emod_eq_zero hbh
    have := Int.dvd_sub d1 d2
    have e9 : f.b % (2 * f.a) + 2 * f.a * (j : Int) - h - (b - h) = f.b % (2 * f.a) + 2 * f.a * j - b := by omega
    rwa [e9] at this)
  have e8 : 2 * f.a * (j : Int) = 2 * f.a * (b / (2 * f.a)) := by omega
  have := Int.eq_of_mul_eq_mul_left (show 2 * f.a ≠ 0 by omega) e8
  omega
theorem UD.b_mod (u : UD d f g x y S Q T e h k b c t1 t2) : b % (2 * (f.a * e)) = b := Int.emod_eq_of_lt u.b0 u.b1
/-- The common residue, as the reference reckons it. -/
theorem UD.common (u : UD d f g x y S Q T e h k b c t1 t2) (i : Int) (hi : i = invF f.a e) :
    (h - f.b % (2 * f.a)) % 2 = 0 ∧ (f.b % (2 * f.a) + 2 * f.a * (((h - f.b % (2 * f.a)) / 2 * i) % e)) % (2 * (f.a * e)) = b := by
  obtain ⟨⟨a1, a2⟩, _, _⟩ := cls_bd u.D.lo u.hf
  obtain ⟨e1, e2⟩ := u.e_pos
  obtain ⟨_, w, hw⟩ := inv_spec e1 u.cop
  rw [← hi] at hw
  have p : (h - f.b % (2 * f.a)) = 2 * ((h - f.b % (2 * f.a)) / 2) := by
    have q1 := u.t1; have q2 := u.t2
    have m1 := Int.emod_add_mul_ediv f.b (2 * f.a)
    have q3 : 2 * f.a * (f.b / (2 * f.a)) = 2 * (f.a * (f.b / (2 * f.a))) := Int.mul_assoc _ _ _
    omega
  refine ⟨by omega, ?_⟩
  generalize (h - f.b % (2 * f.a)) / 2 = z at *
  have r1 := Int.emod_add_mul_ediv (z * i) e
  generalize hr : (z * i) / e = r at *
  generalize hs : (z * i) % e = s at *
  have n1 := Int.emod_add_mul_ediv (f.b % (2 * f.a) + 2 * f.a * s) (2 * (f.a * e))
  have ae := u.ae.1
  apply u.crt (Int.emod_nonneg _ (by omega)) (Int.emod_lt_of_pos _ (by omega))
  all_goals generalize (f.b % (2 * f.a) + 2 * f.a * s) / (2 * (f.a * e)) = n at *
  all_goals have q1 := u.t1
  all_goals have q2 := u.t2
  all_goals have m1 := Int.emod_add_mul_ediv f.b (2 * f.a)
  all_goals generalize f.b / (2 * f.a) = v at *
  all_goals generalize (f.b % (2 * f.a) + 2 * f.a * s) % (2 * (f.a * e)) = B at *
  · exact ⟨s - e * n - t1 - v, by grind⟩
  · refine ⟨-(z * w) - f.a * r - f.a * n - t2, ?_⟩
    have e5 : f.a * s = z - e * (z * w) - f.a * (e * r) := by
      have e6 : f.a * i = 1 - e * w := by omega
      have e7 : s = z * i - e * r := by omega
      rw [e7, Int.mul_sub]
      have e8 : f.a * (z * i) = z * (f.a * i) := by grind
      rw [e8, e6]; grind
    have e9 : B = f.b % (2 * f.a) + 2 * (f.a * s) - 2 * (f.a * e) * n := by have := Int.mul_assoc 2 f.a s; omega
    rw [e9, e5]
    have e10 : f.b % (2 * f.a) = h - 2 * z := by omega
    rw [e10, q2]; grind
end

section
open Go.RowKit

theorem gcd_two {a e : Int} (h : Int.gcd a e = 1) : Int.gcd (2 * a) (2 * e) = 2 := by
  rw [Int.gcd_mul_left]; simp [h]

set_option maxHeartbeats 1600000 in
theorem nuCommon_any (d : Int) (f g : Fm) (x y S Q T e h k b c t1 t2 : Int) (w : World) (u : UD d f g x y S Q T e h k b c t1 t2) :
    Calls Tryz.prog 120 #[.int .i64 (f.b % (2 * f.a)), .int .i64 (2 * f.a), .int .i64 h, .int .i64 (2 * e)] w fun ee w' =>
      ee = .returned (.tuple #[.int .i64 b, .int .i64 (2 * f.a / 2 * (2 * e)), .bool true]) ∧ Below w.heap.size w w' := by
  obtain ⟨⟨a1, a2⟩, ⟨fb1, fb2⟩, _⟩ := cls_bd u.D.lo u.hf
  obtain ⟨e1, e2⟩ := u.e_pos
  obtain ⟨h1, h2⟩ := u.h_bd
  obtain ⟨m1, m2⟩ := u.ae
  have hi := nuInverse_c f.a e
  have his := inv_spec e1 u.cop
  have hcm := u.common _ rfl
  generalize invF f.a e = i at *
  obtain ⟨⟨i0, i1⟩, _⟩ := his
  obtain ⟨hc1, hc2⟩ := hcm
  have r1 := Int.emod_nonneg f.b (show 2 * f.a ≠ 0 by omega)
  have r2 := Int.emod_lt_of_pos f.b (show 0 < 2 * f.a by omega)
  have hgc := gcd_two u.cop
  have hG := Lib.hid (fun w => (nuGcd_any (2 * f.a) (2 * e) w (by omega) (by omega) (by omega) (by omega)).mono (R' := fun e' w' => e' = .returned (.int .i64 2) ∧ ∃ n, w' = w.drewN n) (fun _ _ ⟨h5, h6⟩ => ⟨by rw [h5, hgc]; rfl, h6⟩))
  have hI := Lib.hid (fun w => hi w e1 (by omega) u.cop)
  clear hi hgc
  generalize f.b % (2 * f.a) = r at *
  have z1 : (h - r).tmod 2 = 0 := by
    have : h - r = 2 * ((h - r) / 2) := by omega
    rw [this]; exact Int.mul_tmod_right _ _
  have z2 : (h - r).tdiv 2 = (h - r) / 2 := by
    have : h - r = 2 * ((h - r) / 2) := by omega
    rw (occs := .pos [1]) [this]; exact Int.mul_tdiv_cancel_left _ (by omega)
  generalize hz : (h - r) / 2 = z at *
  have zb : -40000 ≤ z ∧ z ≤ 40000 := by omega
  obtain ⟨zb1, zb2⟩ := zb
  have zi := mul_bd (a := z) (x := i) (A := 40000) (X := 40000) (by omega) (by omega) (by omega) (by omega)
  obtain ⟨zi1, zi2⟩ := zi
  have s1 := Int.emod_nonneg (z * i) (show e ≠ 0 by omega)
  have s2 := Int.emod_lt_of_pos (z * i) e1
  have hs3 := mul_bd (a := 2 * f.a) (x := z * i % e) (A := 52) (X := 40000) (by omega) (by omega) (by omega) (by omega)
  obtain ⟨s3, s4⟩ := hs3
  have q1 : (2 * f.a).tdiv 2 = f.a := Int.mul_tdiv_cancel_left _ (by omega)
  have q2 : (2 * e).tdiv 2 = e := Int.mul_tdiv_cancel_left _ (by omega)
  have q3 : 2 * f.a / 2 = f.a := Int.mul_ediv_cancel_left _ (by omega)
  rw [q3]
  have l3 : f.a * (2 * e) = 2 * (f.a * e) := by grind
  have l4 : 0 < f.a * (2 * e) := by omega
  have l5 : f.a * (2 * e) ≤ 1040000 := by omega
  rw [← l3] at hc2
  have w1 : IntKind.i64.wrap (h - r) = h - r := IntWalk.i64_in _ (by omega)
  have w2 : IntKind.i64.wrap z = z := IntWalk.i64_in _ (by omega)
  have w3 : IntKind.i64.wrap f.a = f.a := IntWalk.i64_in _ (by omega)
  have w4 : IntKind.i64.wrap e = e := IntWalk.i64_in _ (by omega)
  have w5 : IntKind.i64.wrap (z * i) = z * i := IntWalk.i64_in _ (by omega)
  clear hz hc1 l3
  go_enter Tryz.func120, Tryz.ntmps120
  go_wp2_with (go_at_call 135; (with_reducible refine (hG.out _).mono ?_); rintro e' v ⟨rfl, nq, rfl⟩)
  refine wp_region_calm 18 (Below (w.heap.size) _) (by kernel_rfl) (by kernel_rfl) ((Below.refl _ _).drew) ?_
  simp only [List.take_succ_cons, List.take_zero, List.drop_succ_cons, List.drop_zero]
  repeat (first | (apply wpCalm_go; go_simp; (intro w' hw' hcc hff; go_simp; first | exact rfl | ((with_reducible refine (hI.out _).mono ?_); rintro e' w1 ⟨rfl, hb⟩; exact ⟨rfl, calm_call_same hw' hb⟩) | ((with_reducible refine (nuMod_any (z * i) e _ e1 (by omega)).mono ?_); rintro e' w1 ⟨rfl, hb⟩; exact ⟨rfl, calm_call_same hw' hb⟩)); (intro K hK; go_simp; refine hK _ ?_; clear hK K)) | (apply wpCalm_skip; go_simp; (try (focus (simp [undef]; done))); (intro K hK; go_simp; refine hK _ ?_; clear hK K)))
  refine wpCalm_nil ?_
  intro w1 hw1
  have hcc := (calm_cells hw1).1
  have hff := (calm_cells hw1).2
  have hss := calm_size hw1
  have hsz := hw1.size
  (try simp at hsz)
  go_wp2_with (go_at_call 95; (with_reducible refine (nuMod_any _ _ _ l4 (by omega)).mono ?_); rintro e v ⟨rfl, rfl⟩)
  go_ret3
  exact ⟨rfl, (by repeat (first | with_reducible exact Below.refl _ _ | with_reducible assumption | with_reducible apply Below.drew | with_reducible apply below_drewN | (with_reducible apply below_setp; (first | omega | (simp <;> omega))) | (with_reducible apply below_allocp; (first | omega | (simp <;> omega))) | (with_reducible refine below_viap (by assumption) ?_ ?_; (first | omega | (simp <;> omega)))))⟩
end
end Go.Proofs.YtlcegkafagdcjaaGreatDoor
