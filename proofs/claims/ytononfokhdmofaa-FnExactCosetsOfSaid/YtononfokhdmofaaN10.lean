/- Contracts: the values of the assigned characters; the value of a form that is coprime to n; the words of the laws on lists of integers. -/
import Derived.Test.YtononfokhdmofaaN9
import Derived.Test.YtononfokhdmofaaUA
namespace Go.Proofs.Ytononfokhdmofaa
open Go.RowKit

/-- A point that is good without regard to its coordinates. -/
def GoodV (a b c n x y : Int) : Prop := Int.gcd (atF a b c x y) n = 1
theorem goodV_min {a b c n x y : Int} (hn : n.natAbs ≠ 1) (h : MinPt (GoodV a b c n) x y) : MinPt (Good a b c n) x y := by
  obtain ⟨x0, y0, hg, hno⟩ := h
  have h1 : Int.gcd x y = 1 := by
    have hx : ((Int.gcd x y : Nat) : Int) ∣ x := Int.gcd_dvd_left _ _
    have hy : ((Int.gcd x y : Nat) : Int) ∣ y := Int.gcd_dvd_right _ _
    generalize hk : Int.gcd x y = k at *
    obtain ⟨u, hu⟩ := hx
    obtain ⟨v, hv⟩ := hy
    by_cases h0 : k = 0
    · subst h0
      simp at hu hv
      subst hu; subst hv
      exfalso
      apply hn
      unfold GoodV atF at hg
      simpa using hg
    · by_cases h1 : k = 1
      · exact h1
      · exfalso
        have hk2 : (2 : Int) ≤ k := by omega
        have hu0 : 0 ≤ u := by
          apply Int.not_lt.1; intro hl
          have : (k : Int) * u ≤ k * (-1) := Int.mul_le_mul_of_nonneg_left (by omega) (by omega)
          omega
        have hv0 : 0 ≤ v := by
          apply Int.not_lt.1; intro hl
          have : (k : Int) * v ≤ k * (-1) := Int.mul_le_mul_of_nonneg_left (by omega) (by omega)
          omega
        have hu2 : 2 * u ≤ x := by rw [hu]; exact Int.mul_le_mul_of_nonneg_right hk2 hu0
        have hv2 : 2 * v ≤ y := by rw [hv]; exact Int.mul_le_mul_of_nonneg_right hk2 hv0
        have hgd : GoodV a b c n u v := by
          unfold GoodV at *
          have e : atF a b c x y = atF a b c u v * ((k : Int) * k) := by rw [hu, hv]; unfold atF; grind
          rw [e] at hg
          have d1 : ((Int.gcd (atF a b c u v) n : Nat) : Int) ∣ atF a b c u v * ((k : Int) * k) := Int.dvd_trans (Int.gcd_dvd_left _ _) (Int.dvd_mul_right _ _)
          have d2 : ((Int.gcd (atF a b c u v) n : Nat) : Int) ∣ n := Int.gcd_dvd_right _ _
          have := Int.dvd_coe_gcd d1 d2
          rw [hg] at this
          exact Nat.dvd_one.1 (Int.ofNat_dvd.1 this)
        have hpos : 0 < x ∨ 0 < y := by
          apply Classical.byContradiction; intro hno2
          have e1 : x = 0 := by omega
          have e2 : y = 0 := by omega
          rw [e1, e2] at hk
          simp at hk; omega
        exact hno u v hu0 hv0 (.inl (by omega)) hgd
  exact ⟨x0, y0, ⟨h1, hg⟩, fun x' y' k1 k2 k3 k4 => hno x' y' k1 k2 k3 k4.2⟩

/-- What comes back: the value at the first good point. -/
def RetV (a b c n : Int) (w : World) (e : Ending) (w' : World) : Prop := ∃ x y, e = .returned (.int .i64 (atF a b c x y)) ∧ MinPt (GoodV a b c n) x y ∧ Below w.heap.size w w'

set_option maxRecDepth 100000 in
set_option maxHeartbeats 3200000 in
theorem chValueF_any (a b c d X Y S : Int) (w : World) (ha : -5000 ≤ a ∧ a ≤ 5000) (hb : -5000 ≤ b ∧ b ≤ 5000) (hc : -5000 ≤ c ∧ c ≤ 5000) (hn : -2400 ≤ d ∧ d ≤ -3) (hdd : disc ⟨a, b, c⟩ = d)
    (hX : 0 ≤ X ∧ X ≤ S) (hY : 0 ≤ Y ∧ Y ≤ S) (hS : S ≤ 4000) (hg : GoodV a b c (2 * d) X Y) :
    Calls Try.prog 125 #[.agg #[.int .i64 a, .int .i64 b, .int .i64 c]] w (RetV a b c (2 * d) w) := by
  have Hle := Lib.hid (fun (i x y : Int) (h : NoB (GoodV a b c (2 * d)) i x y) => h.le hX.1 hY.1 hg)
  have hS1 : 1 ≤ S := by
    apply Int.not_lt.1; intro hl
    have e1 : X = 0 := by omega
    have e2 : Y = 0 := by omega
    rw [e1, e2] at hg
    unfold GoodV atF at hg
    simp at hg
    omega
  have h00 : ¬ GoodV a b c (2 * d) 0 0 := by
    intro h; unfold GoodV atF at h; simp at h; omega
  have H00 := Lib.hid h00
  have kb := mul_bd hb.1 hb.2 hb.1 hb.2
  have kc := mul_bd (a := 4 * a) (x := c) (A := 20000) (X := 5000) (by omega) (by omega) (by omega) (by omega)
  have hD := Lib.hid (fun w => sdisc_any a b c w ⟨by omega, by omega⟩ ⟨by omega, by omega⟩ ⟨by omega, by omega⟩)
  rw [hdd] at hD
  obtain ⟨n, hnd⟩ : ∃ n, 2 * d = n := ⟨_, rfl⟩
  rw [hnd] at hg Hle H00 ⊢
  have n1 : -5000 ≤ n := by omega
  have n2 : n ≤ 5000 := by omega
  have Hg := Lib.hid hg
  clear hg h00 hdd kb kc
  obtain ⟨X0, X1⟩ := hX
  obtain ⟨Y0, Y1⟩ := hY
  go_enter Try.func125, Try.ntmps125
  go_wp2_with (go_at_call 57; (with_reducible refine (hD.out _).mono ?_); rintro e v1 ⟨rfl, hB1⟩; have hZ1 := hB1.size; (try simp at hZ1); (try have zl1 : w.heap.size < v1.heap.size := by omega); (try have ze1 : w.heap.size ≤ v1.heap.size := by omega); (try have zn1 : ¬ w.heap.size = v1.heap.size := by omega); (try have zm1 : ¬ v1.heap.size = w.heap.size := by omega); have hA1 : Blk v1 (w.heap.size) 26 #[.int .i64 a, .int .i64 b, .int .i64 c] := Blk.call (by (repeat (first | with_reducible assumption | (with_reducible apply Blk.new_at; (first | rfl | (simp; done))) | with_reducible apply Blk.store3 | with_reducible apply Blk.store4 | (with_reducible apply Blk.farp; (first | omega | (simp <;> omega))) | with_reducible apply Blk.allocp | with_reducible apply Blk.drew | with_reducible apply Blk.drewN))) hB1; have cA1 := hA1.cell; have fA1 := hA1.frozen; have lA1 := hA1.lt; have mA1 := Nat.ne_of_gt lA1; have nA1 := Nat.ne_of_lt lA1)
  go_loopw [4] (fun s wr => Fp1 (GoodV a b c n) S a b c w s wr) (fun s _ => (5000 - intOf s).toNat)
  case atStart => exact ⟨1, rfl, by omega, by omega, Lib.hid (NoB.one H00.out), by (repeat (first | with_reducible assumption | (with_reducible apply Blk.new_at; (first | rfl | (simp; done))) | with_reducible apply Blk.store3 | with_reducible apply Blk.store4 | (with_reducible apply Blk.farp; (first | omega | (simp <;> omega))) | with_reducible apply Blk.allocp | with_reducible apply Blk.drew | with_reducible apply Blk.drewN)), (by repeat (first | with_reducible exact Below.refl _ _ | with_reducible assumption | with_reducible apply Below.drew | with_reducible apply below_drewN | (with_reducible apply below_setp; (first | omega | (simp <;> omega))) | (with_reducible apply below_allocp; (first | omega | (simp <;> omega))) | (with_reducible refine below_viap (by assumption) ?_ ?_; (first | omega | (simp <;> omega)))))⟩
  case round =>
    obtain ⟨i, rfl, hi0, hi1, hno, hblk, hbel⟩ := hrel
    go_wp2
    obtain ⟨wo, rfl⟩ : ∃ wo : World, wo = wr := ⟨_, rfl⟩
    go_loopw [5] (fun s wx => Fp2 (GoodV a b c n) i a b c w s wx) (fun s _ => (5010 - intOf s).toNat)
    case atStart => exact ⟨0, rfl, by omega, by omega, hno, hblk, hbel⟩
    case round =>
      clear hno hblk hbel
      obtain ⟨x, rfl, hx0, hx1, hno, hblk, hbel⟩ := hrel
      by_cases hxi : x ≤ i
      · go_wp2
        obtain ⟨wp, rfl⟩ : ∃ wp : World, wp = wr := ⟨_, rfl⟩
        go_loopw [6] (fun s wx => Fp3 (GoodV a b c n) i x a b c w s wx) (fun s _ => (5020 - intOf s).toNat)
        case atStart => exact ⟨0, rfl, by omega, by omega, hno, hblk, hbel⟩
        case round =>
          clear hno hblk hbel
          obtain ⟨y, rfl, hy0, hy1, hno, hblk, hbel⟩ := hrel
          by_cases hyi : y ≤ i
          · have hok := at_small ha hb hc (x := x) (y := y) (by omega) (by omega)
            obtain ⟨hv1, hv2⟩ := at_bd ha hb hc (x := x) (y := y) (by omega) (by omega)
            have hC0 := hblk.cell; have hF0 := hblk.frozen
            have hz := hblk.lt
            obtain ⟨v, hv⟩ : ∃ v, atF a b c x y = v := ⟨_, rfl⟩
            have hA := Lib.hid (fun w => foValue_any a b c x y w hok)
            rw [hv] at hA hv1 hv2
            have Hv := Lib.hid hv
            clear hv
            by_cases hm : max x y = i
            · have hor : x = i ∨ (¬ x = i ∧ y = i) := by omega
              by_cases hg2 : Int.gcd v n = 1
              · have e3 : ((Int.gcd v n : Int) == 1) = true := by rw [hg2]; rfl
                have hres : Hid (MinPt (GoodV a b c n) x y) := Lib.hid ⟨hx0, hy0, by unfold GoodV; rw [Hv.out]; exact hg2, by rw [hm]; exact hno.out⟩
                rcases hor with hxx | ⟨hxx, hyy⟩
                · have e1 : (x == i) = true := by rw [beq_iff_eq]; exact hxx
                  clear hm hg2 hno hxx
                  go_wp2_with (first | (go_at_call 157; (with_reducible refine (hA.out _).mono ?_); rintro e v1 ⟨rfl, hB1⟩; have hC1 := (calm_cells hB1).1; have hF1 := (calm_cells hB1).2) | (go_at_call 133; (with_reducible refine (nuGcd_any _ _ _ (by omega) (by omega) (by omega) (by omega)).mono ?_); rintro e v ⟨rfl, nq, rfl⟩))
                  go_ret
                  exact ⟨x, y, ret_int Hv.out.symm, hres.out, (by repeat (first | with_reducible exact Below.refl _ _ | with_reducible assumption | with_reducible apply Below.drew | with_reducible apply below_drewN | (with_reducible apply below_setp; (first | omega | (simp <;> omega))) | (with_reducible apply below_allocp; (first | omega | (simp <;> omega))) | (with_reducible refine below_viap (by assumption) ?_ ?_; (first | omega | (simp <;> omega)))))⟩
                · have e1 : (x == i) = false := by rw [beq_eq_false_iff_ne]; exact hxx
                  have e2 : (y == i) = true := by rw [beq_iff_eq]; exact hyy
                  clear hm hg2 hno hxx hyy
                  go_wp2_with (first | (go_at_call 157; (with_reducible refine (hA.out _).mono ?_); rintro e v1 ⟨rfl, hB1⟩; have hC1 := (calm_cells hB1).1; have hF1 := (calm_cells hB1).2) | (go_at_call 133; (with_reducible refine (nuGcd_any _ _ _ (by omega) (by omega) (by omega) (by omega)).mono ?_); rintro e v ⟨rfl, nq, rfl⟩))
                  go_ret
                  exact ⟨x, y, ret_int Hv.out.symm, hres.out, (by repeat (first | with_reducible exact Below.refl _ _ | with_reducible assumption | with_reducible apply Below.drew | with_reducible apply below_drewN | (with_reducible apply below_setp; (first | omega | (simp <;> omega))) | (with_reducible apply below_allocp; (first | omega | (simp <;> omega))) | (with_reducible refine below_viap (by assumption) ?_ ?_; (first | omega | (simp <;> omega)))))⟩
              · have e3 : ((Int.gcd v n : Int) == 1) = false := by rw [beq_eq_false_iff_ne]; omega
                have hnx := Lib.hid (hno.out.y fun _ h => hg2 (by unfold GoodV at h; rw [Hv.out] at h; exact h))
                rcases hor with hxx | ⟨hxx, hyy⟩
                · have e1 : (x == i) = true := by rw [beq_iff_eq]; exact hxx
                  clear hm hg2 hno hxx
                  go_wp2_with (first | (go_at_call 157; (with_reducible refine (hA.out _).mono ?_); rintro e v1 ⟨rfl, hB1⟩; have hC1 := (calm_cells hB1).1; have hF1 := (calm_cells hB1).2) | (go_at_call 133; (with_reducible refine (nuGcd_any _ _ _ (by omega) (by omega) (by omega) (by omega)).mono ?_); rintro e v ⟨rfl, nq, rfl⟩))
                  go_roundw
                  case rel => exact ⟨y + 1, rfl, by omega, by omega, hnx, by exact Blk.below (w := wr) (B := wr.heap.size) hblk (by repeat (first | with_reducible exact Below.refl _ _ | with_reducible assumption | with_reducible apply Below.drew | with_reducible apply below_drewN | (with_reducible apply below_setp; (first | omega | (simp <;> omega))) | (with_reducible apply below_allocp; (first | omega | (simp <;> omega))) | (with_reducible refine below_viap (by assumption) ?_ ?_; (first | omega | (simp <;> omega))))) hblk.lt, (by repeat (first | with_reducible exact Below.refl _ _ | with_reducible assumption | with_reducible apply Below.drew | with_reducible apply below_drewN | (with_reducible apply below_setp; (first | omega | (simp <;> omega))) | (with_reducible apply below_allocp; (first | omega | (simp <;> omega))) | (with_reducible refine below_viap (by assumption) ?_ ?_; (first | omega | (simp <;> omega)))))⟩
                  case measure => simp [intOf]; omega
                · have e1 : (x == i) = false := by rw [beq_eq_false_iff_ne]; exact hxx
                  have e2 : (y == i) = true := by rw [beq_iff_eq]; exact hyy
                  clear hm hg2 hno hxx hyy
                  go_wp2_with (first | (go_at_call 157; (with_reducible refine (hA.out _).mono ?_); rintro e v1 ⟨rfl, hB1⟩; have hC1 := (calm_cells hB1).1; have hF1 := (calm_cells hB1).2) | (go_at_call 133; (with_reducible refine (nuGcd_any _ _ _ (by omega) (by omega) (by omega) (by omega)).mono ?_); rintro e v ⟨rfl, nq, rfl⟩))
                  go_roundw
                  case rel => exact ⟨y + 1, rfl, by omega, by omega, hnx, by exact Blk.below (w := wr) (B := wr.heap.size) hblk (by repeat (first | with_reducible exact Below.refl _ _ | with_reducible assumption | with_reducible apply Below.drew | with_reducible apply below_drewN | (with_reducible apply below_setp; (first | omega | (simp <;> omega))) | (with_reducible apply below_allocp; (first | omega | (simp <;> omega))) | (with_reducible refine below_viap (by assumption) ?_ ?_; (first | omega | (simp <;> omega))))) hblk.lt, (by repeat (first | with_reducible exact Below.refl _ _ | with_reducible assumption | with_reducible apply Below.drew | with_reducible apply below_drewN | (with_reducible apply below_setp; (first | omega | (simp <;> omega))) | (with_reducible apply below_allocp; (first | omega | (simp <;> omega))) | (with_reducible refine below_viap (by assumption) ?_ ?_; (first | omega | (simp <;> omega)))))⟩
                  case measure => simp [intOf]; omega
            · have e1 : (x == i) = false := by rw [beq_eq_false_iff_ne]; omega
              have e2 : (y == i) = false := by rw [beq_eq_false_iff_ne]; omega
              have hnx := Lib.hid (hno.out.y fun h => absurd h hm)
              clear hm hno
              go_wp2_with (go_at_call 157; (with_reducible refine (hA.out _).mono ?_); rintro e v1 ⟨rfl, hB1⟩; have hC1 := (calm_cells hB1).1; have hF1 := (calm_cells hB1).2)
              go_roundw
              case rel => exact ⟨y + 1, rfl, by omega, by omega, hnx, by exact Blk.below (w := wr) (B := wr.heap.size) hblk (by repeat (first | with_reducible exact Below.refl _ _ | with_reducible assumption | with_reducible apply Below.drew | with_reducible apply below_drewN | (with_reducible apply below_setp; (first | omega | (simp <;> omega))) | (with_reducible apply below_allocp; (first | omega | (simp <;> omega))) | (with_reducible refine below_viap (by assumption) ?_ ?_; (first | omega | (simp <;> omega))))) hblk.lt, (by repeat (first | with_reducible exact Below.refl _ _ | with_reducible assumption | with_reducible apply Below.drew | with_reducible apply below_drewN | (with_reducible apply below_setp; (first | omega | (simp <;> omega))) | (with_reducible apply below_allocp; (first | omega | (simp <;> omega))) | (with_reducible refine below_viap (by assumption) ?_ ?_; (first | omega | (simp <;> omega)))))⟩
              case measure => simp [intOf]; omega
          · have hxn := Lib.hid (hno.out.x (by omega))
            clear hno
            go_wp2
            go_roundw
            case rel => exact ⟨x + 1, rfl, by omega, by omega, hxn, hblk, hbel⟩
            case measure => simp [intOf]; omega
      · have hxn := hno.out.i (by omega)
        have hlt : i + 1 ≤ S := by have := (Hle.out _ _ _ hxn).1; omega
        have Hxn := Lib.hid hxn
        clear hno hxn
        go_wp2
        go_roundw
        case rel => exact ⟨i + 1, rfl, by omega, hlt, Hxn, hblk, hbel⟩
        case measure => simp [intOf]; omega

/-- The values of the assigned characters of -m at n. -/
def vals (m n : Int) : List Int := (chars m).map fun x => chi x n
theorem vals_len (m n : Int) (h : m ≤ 200000) : (vals m n).length ≤ 900002 := by unfold vals; rw [List.length_map]; exact chars_len m h
theorem map_take {g : Int × Int → Int} {C : List (Int × Int)} {k : Nat} (h : k < C.length) : (C.take (k + 1)).map g = (C.take k).map g ++ [g C[k]] := by
  rw [List.take_succ_eq_append_getElem h, List.map_append]; rfl
def VaSt (n : Int) (C : List (Int × Int)) (B : Nat) (vl : Value) (w : World) (v vi : Value) (wr : World) : Prop :=
  ∃ k : Nat, vi = .int .i64 k ∧ k ≤ C.length ∧ wr.ownsRow w.heap.size 3 1 v ((C.take k).map fun x => chi x n).length (cellsI ((C.take k).map fun x => chi x n)) ∧ wr.ownsRow B 119 2 vl C.length (cellsC C) ∧ Apart v vl ∧ Below w.heap.size w wr

set_option maxRecDepth 100000 in
set_option maxHeartbeats 3200000 in
theorem valuesAt_any (d n : Int) (w : World) (h1 : -200000 ≤ d) (h2 : d ≤ -1) (n0 : -1000000000000000 ≤ n) (n1 : n ≤ 1000000000000000) : Calls Try.prog 128 #[.int .i64 d, .int .i64 n] w (RetI (vals (-d) n) w) := by
  obtain ⟨m, rfl⟩ : ∃ m, d = -m := ⟨-d, by omega⟩
  rw [Int.neg_neg]
  obtain ⟨i0, hi, hz0, hz1, hz2⟩ := info_parts infoInt
  have hl := chars_len m (by omega)
  have hok := Lib.hid (chars_ok (m := m) (by omega) (by omega))
  have hF := Lib.hid (fun w => assigned_any m w (by omega) (by omega))
  unfold vals
  generalize chars m = C at *
  go_enter Try.func128, Try.ntmps128
  go_wp2_with (go_at_call 97; refine (hF.out _).mono ?_; rintro e w1 ⟨vl, rfl, howl, hb1⟩; obtain ⟨base, cap, rfl⟩ := own_shape howl)
  obtain ⟨B, hB⟩ : ∃ B : Nat, B = (w.alloc (.cells #[] 3)).heap.size := ⟨_, rfl⟩
  rw [← hB] at howl
  have hz1' := hb1.size
  go_loopw [5, 12] (fun v i wr => VaSt n C B (.slice base C.length cap) w v i wr) (fun _ i _ => C.length - (intOf i).toNat)
  case atStart => exact ⟨0, rfl, Nat.zero_le _, own_call hb1 (own_empty (Nat.le_refl _)), howl, apart_below howl (by simp [hB]), (by repeat (first | with_reducible exact Below.refl _ _ | with_reducible assumption | with_reducible apply Below.drew | with_reducible apply below_drewN | (with_reducible apply below_setp; (first | omega | (simp <;> omega))) | (with_reducible apply below_allocp; (first | omega | (simp <;> omega))) | (with_reducible refine below_viap (by assumption) ?_ ?_; (first | omega | (simp <;> omega)))))⟩
  case round =>
    clear howl hb1 hz1'
    obtain ⟨k, rfl, hk, hown, howl, hap, hbel⟩ := hrel
    by_cases hlt : k < C.length
    · obtain ⟨g, rfl, hg2, d1, d2⟩ := own_elemC howl hlt
      have hx := Lib.hid (map_take (g := fun x => chi x n) hlt)
      have hPl : ((C.take k).map fun x => chi x n).length ≤ 900002 := by rw [List.length_map, List.length_take]; omega
      have hc := hok.out _ (List.getElem_mem hlt)
      generalize C[k] = x at *
      have hV := Lib.hid (fun w => chValue_any x n w hc n0 n1)
      generalize chi x n = t at *
      generalize hQ : (C.take k).map (fun x => chi x n) = Q at *
      have hz := hbel.size
      clear hc hQ
      go_wp2_with (first
        | (go_at_call 158; (with_reducible refine (hV.out _).mono ?_); rintro e v1 ⟨rfl, hB1⟩; have hZ1 := hB1.size; (try simp at hZ1); (try have zl1 : w.heap.size < v1.heap.size := by omega); (try have ze1 : w.heap.size ≤ v1.heap.size := by omega); (try have zn1 : ¬ w.heap.size = v1.heap.size := by omega); (try have zm1 : ¬ v1.heap.size = w.heap.size := by omega); have hC1_0 := fun o => (calm_cells hB1).1 (wr.heap.size) o (by first | omega | (simp <;> omega)); have hF1_0 := fun o => (calm_cells hB1).2 (wr.heap.size) o (by first | omega | (simp <;> omega)); (try have hl1_0 : wr.heap.size < v1.heap.size := by omega); (try have hm1_0 : ¬ wr.heap.size = v1.heap.size := by omega); (try have hn1_0 : ¬ v1.heap.size = wr.heap.size := by omega))
        | (at_builtin; refine wpList_append_own_at _ rfl (.tmp 16) (.tmp 20) 45 rfl w.heap.size 3 i0 _ 1 8 Try.underlying45 hi hz0 hz1 hz2 rfl (by decide) u5 Q.length (cellsI Q) rfl ?_ ⟨v1.heap.size, 0, none⟩ 1 1 [.int .i64 t] rfl rfl ?_ (one1 _) ?_ ?_ ?_ ?_; exact (by repeat (first | with_reducible assumption | with_reducible apply own_alloc | with_reducible apply own_drew | with_reducible apply own_drewN | (with_reducible refine own_setp (by assumption) ?_ ?_; (first | omega | (simp <;> omega))) | (with_reducible refine own_call (by assumption) ?_))); exact cells1 (Blk.new _ _ _); (unfold maxLen; omega); omega; (simp; omega); intro x2 w2 hown2 hg3 _ hloc))
      have hb2 : Below w.heap.size w w2 := below_grown (own_ge hown) (by simp; omega) hg3 (by repeat (first | with_reducible exact Below.refl _ _ | with_reducible assumption | with_reducible apply Below.drew | with_reducible apply below_drewN | (with_reducible apply below_setp; (first | omega | (simp <;> omega))) | (with_reducible apply below_allocp; (first | omega | (simp <;> omega))) | (with_reducible refine below_viap (by assumption) ?_ ?_; (first | omega | (simp <;> omega)))))
      have ho2 : w2.ownsRow w.heap.size 3 1 x2 ((C.take (k + 1)).map fun x => chi x n).length (cellsI ((C.take (k + 1)).map fun x => chi x n)) := own_snocI hx.out hown2
      have hol1 : (v1.alloc (Obj.cells #[Value.int IntKind.i64 t] 3)).ownsRow B 119 2 (.slice (some ⟨g, 0, none⟩) C.length cap) C.length (cellsC C) := (by repeat (first | with_reducible assumption | with_reducible apply own_alloc | with_reducible apply own_drew | with_reducible apply own_drewN | (with_reducible refine own_setp (by assumption) ?_ ?_; (first | omega | (simp <;> omega))) | (with_reducible refine own_call (by assumption) ?_)))
      have hol2 := hol1.kept hg3 hap
      have hap2 := apart_next hap hol1 (Nat.le_refl _) hloc
      clear hg3 hown2 hown hbel howl hap hol1 hloc
      go_wp2
      go_roundw
      case rel => exact ⟨k + 1, rfl, hlt, ho2, hol2, hap2, hb2⟩
      case measure => simp [intOf]; omega
    · have e : k = C.length := by omega
      have hx : (C.take k).map (fun x => chi x n) = C.map (fun x => chi x n) := by rw [e, List.take_length]
      have Hx := Lib.hid hx
      clear hx
      subst e
      go_wp2
      go_ret
      exact ⟨_, rfl, by rw [← Hx.out]; exact hown, hbel⟩

set_option maxRecDepth 100000 in
set_option maxHeartbeats 3200000 in
theorem chList_any (d n : Int) (w : World) (h1 : -200000 ≤ d) (h2 : d ≤ -1) (n0 : -1000000000000000 ≤ n) (n1 : n ≤ 1000000000000000) : Calls Try.prog 94 #[.int .i64 d, .int .i64 n] w (RetI (vals (-d) n) w) := by
  obtain ⟨m, rfl⟩ : ∃ m, d = -m := ⟨-d, by omega⟩
  rw [Int.neg_neg]
  obtain ⟨i0, hi, hz0, hz1, hz2⟩ := info_parts infoInt
  have hl := chars_len m (by omega)
  have hok := Lib.hid (chars_ok (m := m) (by omega) (by omega))
  have hF := Lib.hid (fun w => chAll_any m w (by omega) (by omega))
  unfold vals
  generalize chars m = C at *
  go_enter Try.func94, Try.ntmps94
  go_wp2_with (go_at_call 96; refine (hF.out _).mono ?_; rintro e w1 ⟨vl, rfl, howl, hb1⟩; obtain ⟨base, cap, rfl⟩ := own_shape howl)
  obtain ⟨B, hB⟩ : ∃ B : Nat, B = w.heap.size := ⟨_, rfl⟩
  rw [← hB] at howl
  have hz1' := hb1.size
  go_loopw [5, 11] (fun v i wr => VaSt n C B (.slice base C.length cap) w v i wr) (fun _ i _ => C.length - (intOf i).toNat)
  case atStart => exact ⟨0, rfl, Nat.zero_le _, World.ownsRow_nil _ _ _ _, howl, apart_nil, (by repeat (first | with_reducible exact Below.refl _ _ | with_reducible assumption | with_reducible apply Below.drew | with_reducible apply below_drewN | (with_reducible apply below_setp; (first | omega | (simp <;> omega))) | (with_reducible apply below_allocp; (first | omega | (simp <;> omega))) | (with_reducible refine below_viap (by assumption) ?_ ?_; (first | omega | (simp <;> omega)))))⟩
  case round =>
    clear howl hb1 hz1'
    obtain ⟨k, rfl, hk, hown, howl, hap, hbel⟩ := hrel
    by_cases hlt : k < C.length
    · obtain ⟨g, rfl, hg2, d1, d2⟩ := own_elemC howl hlt
      have hx := Lib.hid (map_take (g := fun x => chi x n) hlt)
      have hPl : ((C.take k).map fun x => chi x n).length ≤ 900002 := by rw [List.length_map, List.length_take]; omega
      have hc := hok.out _ (List.getElem_mem hlt)
      generalize C[k] = x at *
      have hV := Lib.hid (fun w => chAt_any x n w hc n0 n1)
      generalize chi x n = t at *
      generalize hQ : (C.take k).map (fun x => chi x n) = Q at *
      have hz := hbel.size
      clear hc hQ
      go_wp2_with (first
        | (go_at_call 134; (with_reducible refine (hV.out _).mono ?_); rintro e v1 ⟨rfl, hB1⟩; have hZ1 := hB1.size; (try simp at hZ1); (try have zl1 : w.heap.size < v1.heap.size := by omega); (try have ze1 : w.heap.size ≤ v1.heap.size := by omega); (try have zn1 : ¬ w.heap.size = v1.heap.size := by omega); (try have zm1 : ¬ v1.heap.size = w.heap.size := by omega); have hC1_0 := fun o => (calm_cells hB1).1 (wr.heap.size) o (by first | omega | (simp <;> omega)); have hF1_0 := fun o => (calm_cells hB1).2 (wr.heap.size) o (by first | omega | (simp <;> omega)); (try have hl1_0 : wr.heap.size < v1.heap.size := by omega); (try have hm1_0 : ¬ wr.heap.size = v1.heap.size := by omega); (try have hn1_0 : ¬ v1.heap.size = wr.heap.size := by omega))
        | (at_builtin; refine wpList_append_own_at _ rfl (.tmp 15) (.tmp 19) 45 rfl w.heap.size 3 i0 _ 1 8 Try.underlying45 hi hz0 hz1 hz2 rfl (by decide) u5 Q.length (cellsI Q) rfl ?_ ⟨v1.heap.size, 0, none⟩ 1 1 [.int .i64 t] rfl rfl ?_ (one1 _) ?_ ?_ ?_ ?_; exact (by repeat (first | with_reducible assumption | with_reducible apply own_alloc | with_reducible apply own_drew | with_reducible apply own_drewN | (with_reducible refine own_setp (by assumption) ?_ ?_; (first | omega | (simp <;> omega))) | (with_reducible refine own_call (by assumption) ?_))); exact cells1 (Blk.new _ _ _); (unfold maxLen; omega); omega; (simp; omega); intro x2 w2 hown2 hg3 _ hloc))
      have hb2 : Below w.heap.size w w2 := below_grown (own_ge hown) (by simp; omega) hg3 (by repeat (first | with_reducible exact Below.refl _ _ | with_reducible assumption | with_reducible apply Below.drew | with_reducible apply below_drewN | (with_reducible apply below_setp; (first | omega | (simp <;> omega))) | (with_reducible apply below_allocp; (first | omega | (simp <;> omega))) | (with_reducible refine below_viap (by assumption) ?_ ?_; (first | omega | (simp <;> omega)))))
      have ho2 : w2.ownsRow w.heap.size 3 1 x2 ((C.take (k + 1)).map fun x => chi x n).length (cellsI ((C.take (k + 1)).map fun x => chi x n)) := own_snocI hx.out hown2
      have hol1 : (v1.alloc (Obj.cells #[Value.int IntKind.i64 t] 3)).ownsRow B 119 2 (.slice (some ⟨g, 0, none⟩) C.length cap) C.length (cellsC C) := (by repeat (first | with_reducible assumption | with_reducible apply own_alloc | with_reducible apply own_drew | with_reducible apply own_drewN | (with_reducible refine own_setp (by assumption) ?_ ?_; (first | omega | (simp <;> omega))) | (with_reducible refine own_call (by assumption) ?_)))
      have hol2 := hol1.kept hg3 hap
      have hap2 := apart_next hap hol1 (Nat.le_refl _) hloc
      clear hg3 hown2 hown hbel howl hap hol1 hloc
      go_wp2
      go_roundw
      case rel => exact ⟨k + 1, rfl, hlt, ho2, hol2, hap2, hb2⟩
      case measure => simp [intOf]; omega
    · have e : k = C.length := by omega
      have hx : (C.take k).map (fun x => chi x n) = C.map (fun x => chi x n) := by rw [e, List.take_length]
      have Hx := Lib.hid hx
      clear hx
      subst e
      go_wp2
      go_ret
      exact ⟨_, rfl, by rw [← Hx.out]; exact hown, hbel⟩

end Go.Proofs.Ytononfokhdmofaa
