/- Contracts: the first point of the composition. -/
import Derived.Test.YtifkmjmhhklkjaaC9
import Derived.Test.YtifkmjmhhklkjaaM14
import Derived.Test.YtifkmjmhhklkjaaW3
namespace Go.Proofs.Ytifkmjmhhklkjaa
open Go.RowKit

/-- A good point. -/
def Good (a b c n x y : Int) : Prop := Int.gcd x y = 1 ∧ Int.gcd (atF a b c x y) n = 1
/-- What comes back: the first good point. -/
def RetPt (G : Int → Int → Prop) (w : World) (e : Ending) (w' : World) : Prop := ∃ x y, e = .returned (.tuple #[.int .i64 x, .int .i64 y]) ∧ MinPt G x y ∧ Below w.heap.size w w'
def Fp1 (G : Int → Int → Prop) (S : Int) (a b c : Int) (w : World) (s : Value) (wr : World) : Prop :=
  ∃ i : Int, s = .int .i64 i ∧ 0 ≤ i ∧ i ≤ S ∧ Hid (NoB G i 0 0) ∧ Blk wr w.heap.size 23 #[.int .i64 a, .int .i64 b, .int .i64 c] ∧ Below w.heap.size w wr
def Fp2 (G : Int → Int → Prop) (i : Int) (a b c : Int) (w : World) (s : Value) (wr : World) : Prop :=
  ∃ x : Int, s = .int .i64 x ∧ 0 ≤ x ∧ x ≤ i + 1 ∧ Hid (NoB G i x 0) ∧ Blk wr w.heap.size 23 #[.int .i64 a, .int .i64 b, .int .i64 c] ∧ Below w.heap.size w wr
def Fp3 (G : Int → Int → Prop) (i x : Int) (a b c : Int) (w : World) (s : Value) (wr : World) : Prop :=
  ∃ y : Int, s = .int .i64 y ∧ 0 ≤ y ∧ y ≤ i + 1 ∧ Hid (NoB G i x y) ∧ Blk wr w.heap.size 23 #[.int .i64 a, .int .i64 b, .int .i64 c] ∧ Below w.heap.size w wr
theorem at_small {a b c x y : Int} (ha : -5000 ≤ a ∧ a ≤ 5000) (hb : -5000 ≤ b ∧ b ≤ 5000) (hc : -5000 ≤ c ∧ c ≤ 5000) (hx : 0 ≤ x ∧ x ≤ 5000) (hy : 0 ≤ y ∧ y ≤ 5000) : AtOK a b c x y := by
  have k := fun (u : Int) (hu : -5000 ≤ u ∧ u ≤ 5000) (z : Int) (hz : 0 ≤ z ∧ z ≤ 5000) => mul_bd (A := 5000) (X := 5000) hu.1 hu.2 (show -5000 ≤ z by omega) hz.2
  have k2 := fun (u : Int) (hu : -25000000 ≤ u ∧ u ≤ 25000000) (z : Int) (hz : 0 ≤ z ∧ z ≤ 5000) => mul_bd (A := 25000000) (X := 5000) hu.1 hu.2 (show -5000 ≤ z by omega) hz.2
  have a1 := k a ha x hx
  have b1 := k b hb x hx
  have c1 := k c hc y hy
  have a2 := k2 (a * x) (by omega) x hx
  have b2 := k2 (b * x) (by omega) y hy
  have c2 := k2 (c * y) (by omega) y hy
  exact ⟨⟨by omega, by omega⟩, ⟨by omega, by omega⟩, ⟨by omega, by omega⟩, ⟨by omega, by omega⟩, ⟨by omega, by omega⟩, ⟨by omega, by omega⟩⟩
theorem at_bd {a b c x y : Int} (ha : -5000 ≤ a ∧ a ≤ 5000) (hb : -5000 ≤ b ∧ b ≤ 5000) (hc : -5000 ≤ c ∧ c ≤ 5000) (hx : 0 ≤ x ∧ x ≤ 5000) (hy : 0 ≤ y ∧ y ≤ 5000) : -400000000000 ≤ atF a b c x y ∧ atF a b c x y ≤ 400000000000 := by
  have k := fun (u : Int) (hu : -5000 ≤ u ∧ u ≤ 5000) (z : Int) (hz : 0 ≤ z ∧ z ≤ 5000) => mul_bd (A := 5000) (X := 5000) hu.1 hu.2 (show -5000 ≤ z by omega) hz.2
  have k2 := fun (u : Int) (hu : -25000000 ≤ u ∧ u ≤ 25000000) (z : Int) (hz : 0 ≤ z ∧ z ≤ 5000) => mul_bd (A := 25000000) (X := 5000) hu.1 hu.2 (show -5000 ≤ z by omega) hz.2
  have a1 := k a ha x hx
  have b1 := k b hb x hx
  have c1 := k c hc y hy
  have a2 := k2 (a * x) (by omega) x hx
  have b2 := k2 (b * x) (by omega) y hy
  have c2 := k2 (c * y) (by omega) y hy
  unfold atF; omega

set_option maxRecDepth 100000 in
set_option maxHeartbeats 1600000 in
theorem firstPoint_any (a b c n X Y S : Int) (w : World) (ha : -5000 ≤ a ∧ a ≤ 5000) (hb : -5000 ≤ b ∧ b ≤ 5000) (hc : -5000 ≤ c ∧ c ≤ 5000) (hn : -5000 ≤ n ∧ n ≤ 5000)
    (hX : 0 ≤ X ∧ X ≤ S) (hY : 0 ≤ Y ∧ Y ≤ S) (hS : S ≤ 4000) (hg : Good a b c n X Y) :
    Calls Try.prog 101 #[.agg #[.int .i64 a, .int .i64 b, .int .i64 c], .int .i64 n] w (RetPt (Good a b c n) w) := by
  have Hle := Lib.hid (fun (i x y : Int) (h : NoB (Good a b c n) i x y) => h.le hX.1 hY.1 hg)
  have Hg := Lib.hid hg
  clear hg
  obtain ⟨X0, X1⟩ := hX
  obtain ⟨Y0, Y1⟩ := hY
  go_enter Try.func101, Try.ntmps101
  go_wp2
  go_loopw [6] (fun s wr => Fp1 (Good a b c n) S a b c w s wr) (fun s _ => (5000 - intOf s).toNat)
  case atStart => exact ⟨0, rfl, by omega, by omega, Lib.hid (NoB.zero _), by (repeat (first | with_reducible assumption | (with_reducible apply Blk.new_at; (first | rfl | (simp; done))) | with_reducible apply Blk.store3 | with_reducible apply Blk.store4 | (with_reducible apply Blk.farp; (first | omega | (simp <;> omega))) | with_reducible apply Blk.allocp | with_reducible apply Blk.drew | with_reducible apply Blk.drewN)), (by repeat (first | with_reducible exact Below.refl _ _ | with_reducible assumption | with_reducible apply Below.drew | with_reducible apply below_drewN | (with_reducible apply below_setp; (first | omega | (simp <;> omega))) | (with_reducible apply below_allocp; (first | omega | (simp <;> omega))) | (with_reducible refine below_viap (by assumption) ?_ ?_; (first | omega | (simp <;> omega)))))⟩
  case round =>
    obtain ⟨i, rfl, hi0, hi1, hno, hblk, hbel⟩ := hrel
    go_wp2
    obtain ⟨wo, rfl⟩ : ∃ wo : World, wo = wr := ⟨_, rfl⟩
    go_loopw [7] (fun s wx => Fp2 (Good a b c n) i a b c w s wx) (fun s _ => (5010 - intOf s).toNat)
    case atStart => exact ⟨0, rfl, by omega, by omega, hno, hblk, hbel⟩
    case round =>
      clear hno hblk hbel
      obtain ⟨x, rfl, hx0, hx1, hno, hblk, hbel⟩ := hrel
      by_cases hxi : x ≤ i
      · go_wp2
        obtain ⟨wp, rfl⟩ : ∃ wp : World, wp = wr := ⟨_, rfl⟩
        go_loopw [8] (fun s wx => Fp3 (Good a b c n) i x a b c w s wx) (fun s _ => (5020 - intOf s).toNat)
        case atStart => exact ⟨0, rfl, by omega, by omega, hno, hblk, hbel⟩
        case round =>
          clear hno hblk hbel
          obtain ⟨y, rfl, hy0, hy1, hno, hblk, hbel⟩ := hrel
          by_cases hyi : y ≤ i
          · have hok := at_small ha hb hc (x := x) (y := y) (by omega) (by omega)
            obtain ⟨hv1, hv2⟩ := at_bd ha hb hc (x := x) (y := y) (by omega) (by omega)
            have hy0' : 0 ≤ x → 0 ≤ x := id
            have hC0 := hblk.cell; have hF0 := hblk.frozen
            have hz := hblk.lt
            by_cases hxy : y ≤ x
            · by_cases hm : x = i
              · have e1 : (x == i) = true := by rw [beq_iff_eq]; exact hm
                have e0 : max x y = i := by omega
                by_cases hg1 : Int.gcd x y = 1
                · have e2 : ((Int.gcd x y : Int) == 1) = true := by rw [hg1]; rfl
                  by_cases hg2 : Int.gcd (atF a b c x y) n = 1
                  · have e3 : ((Int.gcd (atF a b c x y) n : Int) == 1) = true := by rw [hg2]; rfl
                    have hres : Hid (MinPt (Good a b c n) x y) := Lib.hid ⟨hy0' hx0, hy0, ⟨hg1, hg2⟩, by rw [e0]; exact hno.out⟩
                    clear hm hg1 hg2 e0 hno
                    go_wp2_with (first | (fail) | (go_at_call 90; (with_reducible refine (gcd_any _ _ _ (by omega) (by omega) (by omega) (by omega)).mono ?_); rintro e v ⟨rfl, nq, rfl⟩) | (go_at_call 103; (with_reducible refine (at_any a b c x y _ hok).mono ?_); rintro e v1 ⟨rfl, hB1⟩; have hC1 := (calm_cells hB1).1; have hF1 := (calm_cells hB1).2))
                    go_ret2
                    exact ⟨_, _, rfl, hres.out, (by repeat (first | with_reducible exact Below.refl _ _ | with_reducible assumption | with_reducible apply Below.drew | with_reducible apply below_drewN | (with_reducible apply below_setp; (first | omega | (simp <;> omega))) | (with_reducible apply below_allocp; (first | omega | (simp <;> omega))) | (with_reducible refine below_viap (by assumption) ?_ ?_; (first | omega | (simp <;> omega)))))⟩
                  · have e3 : ((Int.gcd (atF a b c x y) n : Int) == 1) = false := by rw [beq_eq_false_iff_ne]; omega
                    have hnx := Lib.hid (hno.out.y fun _ h => hg2 h.2)
                    clear hm hg1 hg2 e0 hno
                    go_wp2_with (first | (fail) | (go_at_call 90; (with_reducible refine (gcd_any _ _ _ (by omega) (by omega) (by omega) (by omega)).mono ?_); rintro e v ⟨rfl, nq, rfl⟩) | (go_at_call 103; (with_reducible refine (at_any a b c x y _ hok).mono ?_); rintro e v1 ⟨rfl, hB1⟩; have hC1 := (calm_cells hB1).1; have hF1 := (calm_cells hB1).2))
                    go_roundw
                    case rel => exact ⟨y + 1, rfl, by omega, by omega, hnx, by exact Blk.below (w := wr) (B := wr.heap.size) hblk (by repeat (first | with_reducible exact Below.refl _ _ | with_reducible assumption | with_reducible apply Below.drew | with_reducible apply below_drewN | (with_reducible apply below_setp; (first | omega | (simp <;> omega))) | (with_reducible apply below_allocp; (first | omega | (simp <;> omega))) | (with_reducible refine below_viap (by assumption) ?_ ?_; (first | omega | (simp <;> omega))))) hblk.lt, (by repeat (first | with_reducible exact Below.refl _ _ | with_reducible assumption | with_reducible apply Below.drew | with_reducible apply below_drewN | (with_reducible apply below_setp; (first | omega | (simp <;> omega))) | (with_reducible apply below_allocp; (first | omega | (simp <;> omega))) | (with_reducible refine below_viap (by assumption) ?_ ?_; (first | omega | (simp <;> omega)))))⟩
                    case measure => simp [intOf]; omega
                · have e2 : ((Int.gcd x y : Int) == 1) = false := by rw [beq_eq_false_iff_ne]; omega
                  have hnx := Lib.hid (hno.out.y fun _ h => hg1 h.1)
                  clear hm hg1 e0 hno
                  go_wp2_with (first | (fail) | (go_at_call 90; (with_reducible refine (gcd_any _ _ _ (by omega) (by omega) (by omega) (by omega)).mono ?_); rintro e v ⟨rfl, nq, rfl⟩))
                  go_roundw
                  case rel => exact ⟨y + 1, rfl, by omega, by omega, hnx, by exact Blk.below (w := wr) (B := wr.heap.size) hblk (by repeat (first | with_reducible exact Below.refl _ _ | with_reducible assumption | with_reducible apply Below.drew | with_reducible apply below_drewN | (with_reducible apply below_setp; (first | omega | (simp <;> omega))) | (with_reducible apply below_allocp; (first | omega | (simp <;> omega))) | (with_reducible refine below_viap (by assumption) ?_ ?_; (first | omega | (simp <;> omega))))) hblk.lt, (by repeat (first | with_reducible exact Below.refl _ _ | with_reducible assumption | with_reducible apply Below.drew | with_reducible apply below_drewN | (with_reducible apply below_setp; (first | omega | (simp <;> omega))) | (with_reducible apply below_allocp; (first | omega | (simp <;> omega))) | (with_reducible refine below_viap (by assumption) ?_ ?_; (first | omega | (simp <;> omega)))))⟩
                  case measure => simp [intOf]; omega
              · have e1 : (x == i) = false := by rw [beq_eq_false_iff_ne]; exact hm
                have hnx := Lib.hid (hno.out.y fun h => absurd h (by omega))
                clear hm hno
                go_wp2_with ((fail))
                go_roundw
                case rel => exact ⟨y + 1, rfl, by omega, by omega, hnx, hblk, hbel⟩
                case measure => simp [intOf]; omega
            · by_cases hm : y = i
              · have e1 : (y == i) = true := by rw [beq_iff_eq]; exact hm
                have e0 : max x y = i := by omega
                by_cases hg1 : Int.gcd x y = 1
                · have e2 : ((Int.gcd x y : Int) == 1) = true := by rw [hg1]; rfl
                  by_cases hg2 : Int.gcd (atF a b c x y) n = 1
                  · have e3 : ((Int.gcd (atF a b c x y) n : Int) == 1) = true := by rw [hg2]; rfl
                    have hres : Hid (MinPt (Good a b c n) x y) := Lib.hid ⟨hy0' hx0, hy0, ⟨hg1, hg2⟩, by rw [e0]; exact hno.out⟩
                    clear hm hg1 hg2 e0 hno
                    go_wp2_with (first | (fail) | (go_at_call 90; (with_reducible refine (gcd_any _ _ _ (by omega) (by omega) (by omega) (by omega)).mono ?_); rintro e v ⟨rfl, nq, rfl⟩) | (go_at_call 103; (with_reducible refine (at_any a b c x y _ hok).mono ?_); rintro e v1 ⟨rfl, hB1⟩; have hC1 := (calm_cells hB1).1; have hF1 := (calm_cells hB1).2))
                    go_ret2
                    exact ⟨_, _, rfl, hres.out, (by repeat (first | with_reducible exact Below.refl _ _ | with_reducible assumption | with_reducible apply Below.drew | with_reducible apply below_drewN | (with_reducible apply below_setp; (first | omega | (simp <;> omega))) | (with_reducible apply below_allocp; (first | omega | (simp <;> omega))) | (with_reducible refine below_viap (by assumption) ?_ ?_; (first | omega | (simp <;> omega)))))⟩
                  · have e3 : ((Int.gcd (atF a b c x y) n : Int) == 1) = false := by rw [beq_eq_false_iff_ne]; omega
                    have hnx := Lib.hid (hno.out.y fun _ h => hg2 h.2)
                    clear hm hg1 hg2 e0 hno
                    go_wp2_with (first | (fail) | (go_at_call 90; (with_reducible refine (gcd_any _ _ _ (by omega) (by omega) (by omega) (by omega)).mono ?_); rintro e v ⟨rfl, nq, rfl⟩) | (go_at_call 103; (with_reducible refine (at_any a b c x y _ hok).mono ?_); rintro e v1 ⟨rfl, hB1⟩; have hC1 := (calm_cells hB1).1; have hF1 := (calm_cells hB1).2))
                    go_roundw
                    case rel => exact ⟨y + 1, rfl, by omega, by omega, hnx, by exact Blk.below (w := wr) (B := wr.heap.size) hblk (by repeat (first | with_reducible exact Below.refl _ _ | with_reducible assumption | with_reducible apply Below.drew | with_reducible apply below_drewN | (with_reducible apply below_setp; (first | omega | (simp <;> omega))) | (with_reducible apply below_allocp; (first | omega | (simp <;> omega))) | (with_reducible refine below_viap (by assumption) ?_ ?_; (first | omega | (simp <;> omega))))) hblk.lt, (by repeat (first | with_reducible exact Below.refl _ _ | with_reducible assumption | with_reducible apply Below.drew | with_reducible apply below_drewN | (with_reducible apply below_setp; (first | omega | (simp <;> omega))) | (with_reducible apply below_allocp; (first | omega | (simp <;> omega))) | (with_reducible refine below_viap (by assumption) ?_ ?_; (first | omega | (simp <;> omega)))))⟩
                    case measure => simp [intOf]; omega
                · have e2 : ((Int.gcd x y : Int) == 1) = false := by rw [beq_eq_false_iff_ne]; omega
                  have hnx := Lib.hid (hno.out.y fun _ h => hg1 h.1)
                  clear hm hg1 e0 hno
                  go_wp2_with (first | (fail) | (go_at_call 90; (with_reducible refine (gcd_any _ _ _ (by omega) (by omega) (by omega) (by omega)).mono ?_); rintro e v ⟨rfl, nq, rfl⟩))
                  go_roundw
                  case rel => exact ⟨y + 1, rfl, by omega, by omega, hnx, by exact Blk.below (w := wr) (B := wr.heap.size) hblk (by repeat (first | with_reducible exact Below.refl _ _ | with_reducible assumption | with_reducible apply Below.drew | with_reducible apply below_drewN | (with_reducible apply below_setp; (first | omega | (simp <;> omega))) | (with_reducible apply below_allocp; (first | omega | (simp <;> omega))) | (with_reducible refine below_viap (by assumption) ?_ ?_; (first | omega | (simp <;> omega))))) hblk.lt, (by repeat (first | with_reducible exact Below.refl _ _ | with_reducible assumption | with_reducible apply Below.drew | with_reducible apply below_drewN | (with_reducible apply below_setp; (first | omega | (simp <;> omega))) | (with_reducible apply below_allocp; (first | omega | (simp <;> omega))) | (with_reducible refine below_viap (by assumption) ?_ ?_; (first | omega | (simp <;> omega)))))⟩
                  case measure => simp [intOf]; omega
              · have e1 : (y == i) = false := by rw [beq_eq_false_iff_ne]; exact hm
                have hnx := Lib.hid (hno.out.y fun h => absurd h (by omega))
                clear hm hno
                go_wp2_with ((fail))
                go_roundw
                case rel => exact ⟨y + 1, rfl, by omega, by omega, hnx, hblk, hbel⟩
                case measure => simp [intOf]; omega
          · have hxn := Lib.hid (hno.out.x (by omega))
            clear hno
            go_wp2
            go_roundw
            case rel => exact ⟨x + 1, rfl, by omega, by omega, hxn, hblk, hbel⟩
            case measure => simp [intOf]; omega
      · have hxn := hno.out.i (by omega)
        have hlt : i + 1 ≤ S := by have := (Hle.out _ _ _ hxn).1; omega
        have Hxn := Lib.hid hxn
        clear hno hxn
        go_wp2
        go_roundw
        case rel => exact ⟨i + 1, rfl, by omega, hlt, Hxn, hblk, hbel⟩
        case measure => simp [intOf]; omega

set_option maxHeartbeats 400000 in
theorem l1Most_any (x y : Int) (w : World) : Calls Try.prog 115 #[.int .i64 x, .int .i64 y] w fun e w' => e = .returned (.int .i64 (max x y)) ∧ w = w' := by
  by_cases h : y < x
  · have e : max x y = x := by omega
    rw [e]; clear e
    go_enter Try.func115, Try.ntmps115
    go_wp2
    go_ret
    exact ⟨rfl, rfl⟩
  · have e : max x y = y := by omega
    rw [e]; clear e
    go_enter Try.func115, Try.ntmps115
    go_wp2
    go_ret
    exact ⟨rfl, rfl⟩

set_option maxRecDepth 100000 in
set_option maxHeartbeats 1600000 in
theorem coPoint_any (a b c n X Y S : Int) (w : World) (ha : -5000 ≤ a ∧ a ≤ 5000) (hb : -5000 ≤ b ∧ b ≤ 5000) (hc : -5000 ≤ c ∧ c ≤ 5000) (hn : -5000 ≤ n ∧ n ≤ 5000)
    (hX : 0 ≤ X ∧ X ≤ S) (hY : 0 ≤ Y ∧ Y ≤ S) (hS : S ≤ 90) (hg : Good a b c n X Y) (hX1 : 1 ≤ S) :
    Calls Try.prog 150 #[.agg #[.int .i64 a, .int .i64 b, .int .i64 c], .int .i64 n] w (RetPt (Good a b c n) w) := by
  have Hle := Lib.hid (fun (i x y : Int) (h : NoB (Good a b c n) i x y) => h.le hX.1 hY.1 hg)
  have Hg := Lib.hid hg
  clear hg
  obtain ⟨X0, X1⟩ := hX
  obtain ⟨Y0, Y1⟩ := hY
  go_enter Try.func150, Try.ntmps150
  go_wp2
  go_loopw [6] (fun s wr => Fp1 (Good a b c n) S a b c w s wr) (fun s _ => (5000 - intOf s).toNat)
  case atStart => exact ⟨1, rfl, by omega, by omega, Lib.hid (NoB.one (fun h => by have := h.1; simp at this)), by (repeat (first | with_reducible assumption | (with_reducible apply Blk.new_at; (first | rfl | (simp; done))) | with_reducible apply Blk.store3 | with_reducible apply Blk.store4 | (with_reducible apply Blk.farp; (first | omega | (simp <;> omega))) | with_reducible apply Blk.allocp | with_reducible apply Blk.drew | with_reducible apply Blk.drewN)), (by repeat (first | with_reducible exact Below.refl _ _ | with_reducible assumption | with_reducible apply Below.drew | with_reducible apply below_drewN | (with_reducible apply below_setp; (first | omega | (simp <;> omega))) | (with_reducible apply below_allocp; (first | omega | (simp <;> omega))) | (with_reducible refine below_viap (by assumption) ?_ ?_; (first | omega | (simp <;> omega)))))⟩
  case round =>
    obtain ⟨i, rfl, hi0, hi1, hno, hblk, hbel⟩ := hrel
    have h100 : i ≤ 100 := by omega
    go_wp2
    obtain ⟨wo, rfl⟩ : ∃ wo : World, wo = wr := ⟨_, rfl⟩
    go_loopw [7] (fun s wx => Fp2 (Good a b c n) i a b c w s wx) (fun s _ => (5010 - intOf s).toNat)
    case atStart => exact ⟨0, rfl, by omega, by omega, hno, hblk, hbel⟩
    case round =>
      clear hno hblk hbel
      obtain ⟨x, rfl, hx0, hx1, hno, hblk, hbel⟩ := hrel
      by_cases hxi : x ≤ i
      · go_wp2
        obtain ⟨wp, rfl⟩ : ∃ wp : World, wp = wr := ⟨_, rfl⟩
        go_loopw [8] (fun s wx => Fp3 (Good a b c n) i x a b c w s wx) (fun s _ => (5020 - intOf s).toNat)
        case atStart => exact ⟨0, rfl, by omega, by omega, hno, hblk, hbel⟩
        case round =>
          clear hno hblk hbel
          obtain ⟨y, rfl, hy0, hy1, hno, hblk, hbel⟩ := hrel
          by_cases hyi : y ≤ i
          · have hok := at_small ha hb hc (x := x) (y := y) (by omega) (by omega)
            obtain ⟨hv1, hv2⟩ := at_bd ha hb hc (x := x) (y := y) (by omega) (by omega)
            have hy0' : 0 ≤ x → 0 ≤ x := id
            have hC0 := hblk.cell; have hF0 := hblk.frozen
            have hz := hblk.lt
            by_cases hxy : y ≤ x
            · by_cases hm : x = i
              · have e1 : (max x y == i) = true := by rw [beq_iff_eq]; omega
                have e0 : max x y = i := by omega
                by_cases hg1 : Int.gcd x y = 1
                · have e2 : ((Int.gcd x y : Int) == 1) = true := by rw [hg1]; rfl
                  by_cases hg2 : Int.gcd (atF a b c x y) n = 1
                  · have e3 : ((Int.gcd (atF a b c x y) n : Int) == 1) = true := by rw [hg2]; rfl
                    have hres : Hid (MinPt (Good a b c n) x y) := Lib.hid ⟨hy0' hx0, hy0, ⟨hg1, hg2⟩, by rw [e0]; exact hno.out⟩
                    clear hm hg1 hg2 e0 hno
                    go_wp2_with (first | (go_at_call 115; (with_reducible refine (l1Most_any x y _).mono ?_); rintro e v ⟨rfl, rfl⟩) | (go_at_call 53; (with_reducible refine (nuGcd_any _ _ _ (by omega) (by omega) (by omega) (by omega)).mono ?_); rintro e v ⟨rfl, nq, rfl⟩) | (go_at_call 134; (with_reducible refine (foValue_any a b c x y _ hok).mono ?_); rintro e v1 ⟨rfl, hB1⟩; have hC1 := (calm_cells hB1).1; have hF1 := (calm_cells hB1).2))
                    go_ret2
                    exact ⟨_, _, rfl, hres.out, (by repeat (first | with_reducible exact Below.refl _ _ | with_reducible assumption | with_reducible apply Below.drew | with_reducible apply below_drewN | (with_reducible apply below_setp; (first | omega | (simp <;> omega))) | (with_reducible apply below_allocp; (first | omega | (simp <;> omega))) | (with_reducible refine below_viap (by assumption) ?_ ?_; (first | omega | (simp <;> omega)))))⟩
                  · have e3 : ((Int.gcd (atF a b c x y) n : Int) == 1) = false := by rw [beq_eq_false_iff_ne]; omega
                    have hnx := Lib.hid (hno.out.y fun _ h => hg2 h.2)
                    clear hm hg1 hg2 e0 hno
                    go_wp2_with (first | (go_at_call 115; (with_reducible refine (l1Most_any x y _).mono ?_); rintro e v ⟨rfl, rfl⟩) | (go_at_call 53; (with_reducible refine (nuGcd_any _ _ _ (by omega) (by omega) (by omega) (by omega)).mono ?_); rintro e v ⟨rfl, nq, rfl⟩) | (go_at_call 134; (with_reducible refine (foValue_any a b c x y _ hok).mono ?_); rintro e v1 ⟨rfl, hB1⟩; have hC1 := (calm_cells hB1).1; have hF1 := (calm_cells hB1).2))
                    go_roundw
                    case rel => exact ⟨y + 1, rfl, by omega, by omega, hnx, by exact Blk.below (w := wr) (B := wr.heap.size) hblk (by repeat (first | with_reducible exact Below.refl _ _ | with_reducible assumption | with_reducible apply Below.drew | with_reducible apply below_drewN | (with_reducible apply below_setp; (first | omega | (simp <;> omega))) | (with_reducible apply below_allocp; (first | omega | (simp <;> omega))) | (with_reducible refine below_viap (by assumption) ?_ ?_; (first | omega | (simp <;> omega))))) hblk.lt, (by repeat (first | with_reducible exact Below.refl _ _ | with_reducible assumption | with_reducible apply Below.drew | with_reducible apply below_drewN | (with_reducible apply below_setp; (first | omega | (simp <;> omega))) | (with_reducible apply below_allocp; (first | omega | (simp <;> omega))) | (with_reducible refine below_viap (by assumption) ?_ ?_; (first | omega | (simp <;> omega)))))⟩
                    case measure => simp [intOf]; omega
                · have e2 : ((Int.gcd x y : Int) == 1) = false := by rw [beq_eq_false_iff_ne]; omega
                  have hnx := Lib.hid (hno.out.y fun _ h => hg1 h.1)
                  clear hm hg1 e0 hno
                  go_wp2_with (first | (go_at_call 115; (with_reducible refine (l1Most_any x y _).mono ?_); rintro e v ⟨rfl, rfl⟩) | (go_at_call 53; (with_reducible refine (nuGcd_any _ _ _ (by omega) (by omega) (by omega) (by omega)).mono ?_); rintro e v ⟨rfl, nq, rfl⟩))
                  go_roundw
                  case rel => exact ⟨y + 1, rfl, by omega, by omega, hnx, by exact Blk.below (w := wr) (B := wr.heap.size) hblk (by repeat (first | with_reducible exact Below.refl _ _ | with_reducible assumption | with_reducible apply Below.drew | with_reducible apply below_drewN | (with_reducible apply below_setp; (first | omega | (simp <;> omega))) | (with_reducible apply below_allocp; (first | omega | (simp <;> omega))) | (with_reducible refine below_viap (by assumption) ?_ ?_; (first | omega | (simp <;> omega))))) hblk.lt, (by repeat (first | with_reducible exact Below.refl _ _ | with_reducible assumption | with_reducible apply Below.drew | with_reducible apply below_drewN | (with_reducible apply below_setp; (first | omega | (simp <;> omega))) | (with_reducible apply below_allocp; (first | omega | (simp <;> omega))) | (with_reducible refine below_viap (by assumption) ?_ ?_; (first | omega | (simp <;> omega)))))⟩
                  case measure => simp [intOf]; omega
              · have e1 : (max x y == i) = false := by rw [beq_eq_false_iff_ne]; omega
                have hnx := Lib.hid (hno.out.y fun h => absurd h (by omega))
                clear hm hno
                go_wp2_with ((go_at_call 115; (with_reducible refine (l1Most_any x y _).mono ?_); rintro e v ⟨rfl, rfl⟩))
                go_roundw
                case rel => exact ⟨y + 1, rfl, by omega, by omega, hnx, hblk, hbel⟩
                case measure => simp [intOf]; omega
            · by_cases hm : y = i
              · have e1 : (max x y == i) = true := by rw [beq_iff_eq]; omega
                have e0 : max x y = i := by omega
                by_cases hg1 : Int.gcd x y = 1
                · have e2 : ((Int.gcd x y : Int) == 1) = true := by rw [hg1]; rfl
                  by_cases hg2 : Int.gcd (atF a b c x y) n = 1
                  · have e3 : ((Int.gcd (atF a b c x y) n : Int) == 1) = true := by rw [hg2]; rfl
                    have hres : Hid (MinPt (Good a b c n) x y) := Lib.hid ⟨hy0' hx0, hy0, ⟨hg1, hg2⟩, by rw [e0]; exact hno.out⟩
                    clear hm hg1 hg2 e0 hno
                    go_wp2_with (first | (go_at_call 115; (with_reducible refine (l1Most_any x y _).mono ?_); rintro e v ⟨rfl, rfl⟩) | (go_at_call 53; (with_reducible refine (nuGcd_any _ _ _ (by omega) (by omega) (by omega) (by omega)).mono ?_); rintro e v ⟨rfl, nq, rfl⟩) | (go_at_call 134; (with_reducible refine (foValue_any a b c x y _ hok).mono ?_); rintro e v1 ⟨rfl, hB1⟩; have hC1 := (calm_cells hB1).1; have hF1 := (calm_cells hB1).2))
                    go_ret2
                    exact ⟨_, _, rfl, hres.out, (by repeat (first | with_reducible exact Below.refl _ _ | with_reducible assumption | with_reducible apply Below.drew | with_reducible apply below_drewN | (with_reducible apply below_setp; (first | omega | (simp <;> omega))) | (with_reducible apply below_allocp; (first | omega | (simp <;> omega))) | (with_reducible refine below_viap (by assumption) ?_ ?_; (first | omega | (simp <;> omega)))))⟩
                  · have e3 : ((Int.gcd (atF a b c x y) n : Int) == 1) = false := by rw [beq_eq_false_iff_ne]; omega
                    have hnx := Lib.hid (hno.out.y fun _ h => hg2 h.2)
                    clear hm hg1 hg2 e0 hno
                    go_wp2_with (first | (go_at_call 115; (with_reducible refine (l1Most_any x y _).mono ?_); rintro e v ⟨rfl, rfl⟩) | (go_at_call 53; (with_reducible refine (nuGcd_any _ _ _ (by omega) (by omega) (by omega) (by omega)).mono ?_); rintro e v ⟨rfl, nq, rfl⟩) | (go_at_call 134; (with_reducible refine (foValue_any a b c x y _ hok).mono ?_); rintro e v1 ⟨rfl, hB1⟩; have hC1 := (calm_cells hB1).1; have hF1 := (calm_cells hB1).2))
                    go_roundw
                    case rel => exact ⟨y + 1, rfl, by omega, by omega, hnx, by exact Blk.below (w := wr) (B := wr.heap.size) hblk (by repeat (first | with_reducible exact Below.refl _ _ | with_reducible assumption | with_reducible apply Below.drew | with_reducible apply below_drewN | (with_reducible apply below_setp; (first | omega | (simp <;> omega))) | (with_reducible apply below_allocp; (first | omega | (simp <;> omega))) | (with_reducible refine below_viap (by assumption) ?_ ?_; (first | omega | (simp <;> omega))))) hblk.lt, (by repeat (first | with_reducible exact Below.refl _ _ | with_reducible assumption | with_reducible apply Below.drew | with_reducible apply below_drewN | (with_reducible apply below_setp; (first | omega | (simp <;> omega))) | (with_reducible apply below_allocp; (first | omega | (simp <;> omega))) | (with_reducible refine below_viap (by assumption) ?_ ?_; (first | omega | (simp <;> omega)))))⟩
                    case measure => simp [intOf]; omega
                · have e2 : ((Int.gcd x y : Int) == 1) = false := by rw [beq_eq_false_iff_ne]; omega
                  have hnx := Lib.hid (hno.out.y fun _ h => hg1 h.1)
                  clear hm hg1 e0 hno
                  go_wp2_with (first | (go_at_call 115; (with_reducible refine (l1Most_any x y _).mono ?_); rintro e v ⟨rfl, rfl⟩) | (go_at_call 53; (with_reducible refine (nuGcd_any _ _ _ (by omega) (by omega) (by omega) (by omega)).mono ?_); rintro e v ⟨rfl, nq, rfl⟩))
                  go_roundw
                  case rel => exact ⟨y + 1, rfl, by omega, by omega, hnx, by exact Blk.below (w := wr) (B := wr.heap.size) hblk (by repeat (first | with_reducible exact Below.refl _ _ | with_reducible assumption | with_reducible apply Below.drew | with_reducible apply below_drewN | (with_reducible apply below_setp; (first | omega | (simp <;> omega))) | (with_reducible apply below_allocp; (first | omega | (simp <;> omega))) | (with_reducible refine below_viap (by assumption) ?_ ?_; (first | omega | (simp <;> omega))))) hblk.lt, (by repeat (first | with_reducible exact Below.refl _ _ | with_reducible assumption | with_reducible apply Below.drew | with_reducible apply below_drewN | (with_reducible apply below_setp; (first | omega | (simp <;> omega))) | (with_reducible apply below_allocp; (first | omega | (simp <;> omega))) | (with_reducible refine below_viap (by assumption) ?_ ?_; (first | omega | (simp <;> omega)))))⟩
                  case measure => simp [intOf]; omega
              · have e1 : (max x y == i) = false := by rw [beq_eq_false_iff_ne]; omega
                have hnx := Lib.hid (hno.out.y fun h => absurd h (by omega))
                clear hm hno
                go_wp2_with ((go_at_call 115; (with_reducible refine (l1Most_any x y _).mono ?_); rintro e v ⟨rfl, rfl⟩))
                go_roundw
                case rel => exact ⟨y + 1, rfl, by omega, by omega, hnx, hblk, hbel⟩
                case measure => simp [intOf]; omega
          · have hxn := Lib.hid (hno.out.x (by omega))
            clear hno
            go_wp2
            go_roundw
            case rel => exact ⟨x + 1, rfl, by omega, by omega, hxn, hblk, hbel⟩
            case measure => simp [intOf]; omega
      · have hxn := hno.out.i (by omega)
        have hlt : i + 1 ≤ S := by have := (Hle.out _ _ _ hxn).1; omega
        have Hxn := Lib.hid hxn
        clear hno hxn
        go_wp2
        go_roundw
        case rel => exact ⟨i + 1, rfl, by omega, hlt, Hxn, hblk, hbel⟩
        case measure => simp [intOf]; omega
end Go.Proofs.Ytifkmjmhhklkjaa
