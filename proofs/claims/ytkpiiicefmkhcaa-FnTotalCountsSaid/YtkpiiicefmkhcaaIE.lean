/- Contract: the points at which a form has a value, of the reference. -/
import Derived.Test.YtkpiiicefmkhcaaID
namespace Go.Proofs.Ytkpiiicefmkhcaa
open Go.RowKit

theorem no_root {S r t : Int} (h0 : 0 ≤ r) (h1 : r * r ≤ S) (h2 : S < (r + 1) * (r + 1)) (hne : r * r ≠ S) (ht : t * t = S) : False := by
  have h3 : ∀ u : Int, 0 ≤ u → u * u = S → False := fun u hu he => by
    rcases Int.lt_or_le u (r + 1) with h | h
    · rcases Int.lt_or_le r u with h' | h'
      · omega
      · have h4 := Int.mul_le_mul h' h' hu (by omega)
        have h5 : r * r = S := by omega
        exact hne h5
    · have := Int.mul_le_mul h h (by omega) hu
      omega
  rcases Int.le_total 0 t with h | h
  · exact h3 t h ht
  · exact h3 (-t) (by omega) (by rw [Int.neg_mul_neg]; exact ht)
/-- What the search has found. -/
def VaS (a b c n : Int) (D : Int × Int → Prop) (w : World) (v : Value) (wr : World) : Prop :=
  ∃ L, Hid (PtI a b c n D L) ∧ wr.ownsRow w.heap.size 37 2 v L.length (cellsP L) ∧ Hid (Blk wr w.heap.size 35 #[.int .i64 a, .int .i64 b, .int .i64 c]) ∧ Below w.heap.size w wr

set_option maxRecDepth 100000 in
set_option maxHeartbeats 12800000 in
theorem vaAt_e (a b c e n : Int) (w : World) (ha : 1 ≤ a ∧ a ≤ 100) (hb : -100 ≤ b ∧ b ≤ 100) (he : 3 ≤ e ∧ e ≤ 2000) (hn : 1 ≤ n ∧ n ≤ 10000) (hd : b * b - 4 * a * c = -e)
    (hDc : ∀ w, Calls Try.prog 148 #[.agg #[.int .i64 a, .int .i64 b, .int .i64 c]] w fun e' w' => e' = .returned (.int .i64 (-e)) ∧ Below w.heap.size w w')
    (hsub : ∀ L : List (Int × Int), L.Nodup → (∀ p ∈ L, vlP a b c p = n) → L.length ≤ 50000) :
    Calls Try.prog 129 #[.agg #[.int .i64 a, .int .i64 b, .int .i64 c], .int .i64 n] w (fun e' w' => ∃ L, L.Nodup ∧ (∀ p, p ∈ L ↔ vlP a b c p = n) ∧ RetPs L w e' w') := by
  obtain ⟨a1, a2⟩ := ha
  obtain ⟨b1, b2⟩ := hb
  obtain ⟨e1, e2⟩ := he
  obtain ⟨n1, n2⟩ := hn
  have HD := Lib.hid hDc
  have Hsub := Lib.hid hsub
  have Hd := Lib.hid hd
  have an1 : 4 ≤ 4 * a * n := by
    have := Int.mul_le_mul (show (4 : Int) ≤ 4 * a by omega) n1 (by omega) (by omega); omega
  have an2 : 4 * a * n ≤ 4000000 := by
    have := Int.mul_le_mul (show 4 * a ≤ 400 by omega) n2 (by omega) (by omega); omega
  have a3 : ¬ 2 * a = 0 := by omega
  have a4 : (2 * a == 0) = false := by rw [beq_eq_false_iff_ne]; exact a3
  clear hDc hsub hd
  go_enter Try.func129, Try.ntmps129
  go_wp2_with (go_at_call 148; (with_reducible refine (HD.out _).mono ?_); rintro e v1 ⟨rfl, hB1⟩; have hZ1 := hB1.size; (try simp at hZ1); (try have zl1 : w.heap.size < v1.heap.size := by omega); (try have ze1 : w.heap.size ≤ v1.heap.size := by omega); (try have zn1 : ¬ w.heap.size = v1.heap.size := by omega); (try have zm1 : ¬ v1.heap.size = w.heap.size := by omega); have hA1 : Blk v1 (w.heap.size) 35 #[.int .i64 a, .int .i64 b, .int .i64 c] := Blk.call (by (repeat (first | with_reducible assumption | (with_reducible apply Blk.new_at; (first | rfl | (simp; done))) | with_reducible apply Blk.store3 | with_reducible apply Blk.store4 | (with_reducible apply Blk.farp; (first | omega | (simp <;> omega))) | with_reducible apply Blk.allocp | with_reducible apply Blk.drew | with_reducible apply Blk.drewN))) hB1; have cA1 := hA1.cell; have fA1 := hA1.frozen; have lA1 := hA1.lt; have mA1 := Nat.ne_of_gt lA1; have nA1 := Nat.ne_of_lt lA1)
  have hS0 : VaS a b c n (fun q => (q.2.natAbs : Int) < 0) w (.slice none 0 0) v1 := ⟨[], Lib.hid PtI.start, World.ownsRow_nil _ _ _ _, Lib.hid hA1, (by repeat (first | with_reducible exact Below.refl _ _ | with_reducible assumption | with_reducible apply Below.drew | with_reducible apply below_drewN | (with_reducible apply below_setp; (first | omega | (simp <;> omega))) | (with_reducible apply below_allocp; (first | omega | (simp <;> omega))) | (with_reducible refine below_viap (by assumption) ?_ ?_; (first | omega | (simp <;> omega)))))⟩
  clear hA1 cA1 fA1 lA1
  go_loopw [6, 7] (fun v vy wr => ∃ y : Int, vy = .int .i64 y ∧ 0 ≤ y ∧ y ≤ 1300 ∧ VaS a b c n (fun q => (q.2.natAbs : Int) < y) w v wr) (fun _ vy _ => (1400 - intOf vy).toNat)
  case atStart => exact ⟨0, rfl, by omega, by omega, hS0⟩
  case round =>
    clear hS0
    obtain ⟨y, rfl, y0, y1, L, hL, hown, hA, hbel⟩ := hrel
    have hz := hbel.size
    have cA := hA.out.cell; have fA := hA.out.frozen; have lA := hA.out.lt
    have hyy : 0 ≤ y * y ∧ y * y ≤ 1300 * 1300 := ⟨Int.mul_nonneg y0 y0, Int.mul_le_mul y1 y1 y0 (by omega)⟩
    have hey : 0 ≤ e * y ∧ e * y ≤ 2000 * 1300 := ⟨Int.mul_nonneg (by omega) y0, Int.mul_le_mul e2 y1 y0 (by omega)⟩
    have heyy : 0 ≤ e * (y * y) ∧ e * (y * y) ≤ 2000 * (1300 * 1300) := ⟨Int.mul_nonneg (by omega) hyy.1, Int.mul_le_mul e2 hyy.2 hyy.1 (by omega)⟩
    have hass : e * y * y = e * (y * y) := Int.mul_assoc _ _ _
    have hne : -e * y = -(e * y) := Int.neg_mul _ _
    have hne2 : -e * y * y = -(e * y * y) := by rw [Int.neg_mul, Int.neg_mul]
    have hwd : wrap64 (e * y) = e * y := IntWalk.wrap64_in _ (by omega)
    have hwe : wrap64 (e * y * y) = e * y * y := IntWalk.wrap64_in _ (by omega)
    by_cases hle : e * y * y ≤ 4 * a * n
    · have hy2 : y ≤ 1200 := by
        apply Int.not_lt.1; intro hl
        have h3 := Int.mul_le_mul (show (1201 : Int) ≤ y by omega) (show (1201 : Int) ≤ y by omega) (by omega) (by omega)
        have h4 := Int.mul_le_mul e1 h3 (by omega) (by omega)
        omega
      obtain ⟨S, hS⟩ : ∃ S, -e * y * y + 4 * a * n = S := ⟨_, rfl⟩
      have s0 : 0 ≤ S := by omega
      have s1 : S ≤ 4000000 := by omega
      have hwa : wrap64 (-e * y) = -e * y := IntWalk.wrap64_in _ (by omega)
      have hwb : wrap64 (-e * y * y) = -e * y * y := IntWalk.wrap64_in _ (by omega)
      have hwc : wrap64 (-e * y * y + 4 * a * n) = S := (IntWalk.wrap64_in _ (by omega)).trans hS
      have hlx : decide (e * y * y ≤ 4 * a * n) = true := decide_eq_true hle
      have hRt := Lib.hid (fun w => nuRoot_any S w s0 (by omega))
      have HS := Lib.hid hS
      clear hS hne hne2 hass heyy
      go_wp2_with fail
      refine (hRt.out _).mono ?_
      rintro e' v2 ⟨⟨r, rfl, r0, r1, r2, r3⟩, rfl⟩
      have rr1 : r * r ≤ 4000000 := by omega
      have rr0 : 0 ≤ r * r := Int.mul_nonneg r0 r0
      have rb : r ≤ 2000 := by
        apply Int.not_lt.1; intro hl
        have := Int.mul_le_mul (show (2001 : Int) ≤ r by omega) (show (2001 : Int) ≤ r by omega) (by omega) (by omega)
        omega
      by_cases hrr : r * r = S
      case neg =>
        have hk : (r * r != S) = true := by rw [bne_iff_ne]; exact hrr
        have hL2 := Lib.hid (hL.out.skip (show 0 < a by omega) Hd.out (fun t ht => no_root r0 r2 r3 hrr (ht.trans HS.out)))
        clear hrr hL
        go_wp2
        go_roundw
        case rel => exact ⟨y + 1, rfl, by omega, by omega, L, hL2, hown, hA, hbel⟩
        case measure => simp [intOf]; omega
      case pos =>
        have hk : (r * r != S) = false := by rw [bne, beq_iff_eq.2 hrr]; rfl
        have hss := Lib.hid (show r * r = -e * y * y + 4 * a * n from hrr.trans HS.out.symm)
        have hL2 := Lib.hid (PtI.into (s := r) hL.out)
        clear hrr hL
        obtain ⟨wo, rfl⟩ : ∃ wo : World, wo = wr := ⟨_, rfl⟩
        have hI0 : VaS a b c n (dnP a b y r 0 0) w u6 (wo.alloc (.cells #[.int .i64 y, .int .i64 (-y)] 3)) := ⟨L, hL2, own_alloc hown, Lib.hid (by have hA2 := hA.out; (repeat (first | with_reducible assumption | (with_reducible apply Blk.new_at; (first | rfl | (simp; done))) | with_reducible apply Blk.store3 | with_reducible apply Blk.store4 | (with_reducible apply Blk.farp; (first | omega | (simp <;> omega))) | with_reducible apply Blk.allocp | with_reducible apply Blk.drew | with_reducible apply Blk.drewN))), (by repeat (first | with_reducible exact Below.refl _ _ | with_reducible assumption | with_reducible apply Below.drew | with_reducible apply below_drewN | (with_reducible apply below_setp; (first | omega | (simp <;> omega))) | (with_reducible apply below_allocp; (first | omega | (simp <;> omega))) | (with_reducible refine below_viap (by assumption) ?_ ?_; (first | omega | (simp <;> omega)))))⟩
        have hV0 : Blk (wo.alloc (.cells #[.int .i64 y, .int .i64 (-y)] 3)) wo.heap.size 3 #[.int .i64 y, .int .i64 (-y)] := Blk.new _ _ _
        clear hL2 hown
        go_wp2
        clear hwa hwb hwc hwd hwe hlx hk
        go_loopw [6, 62] (fun v vi wr => ∃ i : Nat, vi = .int .i64 i ∧ i ≤ 2 ∧ VaS a b c n (dnP a b y r i 0) w v wr ∧ Hid (Blk wr wo.heap.size 3 #[.int .i64 y, .int .i64 (-y)]) ∧ wo.heap.size < wr.heap.size) (fun _ vi _ => 2 - (intOf vi).toNat)
        case atStart => exact ⟨0, rfl, by omega, hI0, Lib.hid hV0, by simp⟩
        case round =>
          clear hI0 hV0
          obtain ⟨i, rfl, hi, ⟨L, hL, hown, hA, hbel⟩, hV, hvs⟩ := hrel
          have hz2 := hbel.size
          by_cases hlt : i < 2
          · have cV : wr.cell? ⟨wo.heap.size, i, none⟩ = some (.int .i64 (sgV i y)) := by
              rw [hV.out.cell]
              obtain rfl | rfl : i = 0 ∨ i = 1 := by omega
              · rfl
              · rfl
            have fV := hV.out.frozen i
            have hvb : -1200 ≤ sgV i y ∧ sgV i y ≤ 1200 := by unfold sgV; split <;> omega
            obtain ⟨v, hv⟩ : ∃ v, sgV i y = v := ⟨_, rfl⟩
            have Hv := Lib.hid hv
            rw [hv] at cV hvb
            clear hv
            obtain ⟨wi, rfl⟩ : ∃ wi : World, wi = wr := ⟨_, rfl⟩
            have hbv : -120000 ≤ b * v ∧ b * v ≤ 120000 := by
              have h1 : (b * v).natAbs = b.natAbs * v.natAbs := Int.natAbs_mul _ _
              have h2 := Nat.mul_le_mul (show b.natAbs ≤ 100 by omega) (show v.natAbs ≤ 1200 by omega)
              omega
            have cA2 := hA.out.cell; have fA2 := hA.out.frozen; have lA2 := hA.out.lt
            have hJ0 : VaS a b c n (dnP a b y r i 0) w u6 (wi.alloc (.cells #[.int .i64 r, .int .i64 (-r)] 3)) := ⟨L, hL, own_alloc hown, Lib.hid (by have hA2 := hA.out; (repeat (first | with_reducible assumption | (with_reducible apply Blk.new_at; (first | rfl | (simp; done))) | with_reducible apply Blk.store3 | with_reducible apply Blk.store4 | (with_reducible apply Blk.farp; (first | omega | (simp <;> omega))) | with_reducible apply Blk.allocp | with_reducible apply Blk.drew | with_reducible apply Blk.drewN))), (by repeat (first | with_reducible exact Below.refl _ _ | with_reducible assumption | with_reducible apply Below.drew | with_reducible apply below_drewN | (with_reducible apply below_setp; (first | omega | (simp <;> omega))) | (with_reducible apply below_allocp; (first | omega | (simp <;> omega))) | (with_reducible refine below_viap (by assumption) ?_ ?_; (first | omega | (simp <;> omega)))))⟩
            have hR0 : Blk (wi.alloc (.cells #[.int .i64 r, .int .i64 (-r)] 3)) wi.heap.size 3 #[.int .i64 r, .int .i64 (-r)] := Blk.new _ _ _
            have hV0 : Blk (wi.alloc (.cells #[.int .i64 r, .int .i64 (-r)] 3)) wo.heap.size 3 #[.int .i64 y, .int .i64 (-y)] := Blk.allocp hV.out
            have Hlt := Lib.hid hlt
            have hdi : decide ((i : Int) < 2) = true := decide_eq_true (by omega)
            clear hown hL
            go_wp2
            clear hlt
            go_loopw [6, 71] (fun vl vj wr => ∃ j : Nat, vj = .int .i64 j ∧ j ≤ 2 ∧ VaS a b c n (dnP a b y r i j) w vl wr ∧ Hid (Blk wr wo.heap.size 3 #[.int .i64 y, .int .i64 (-y)]) ∧ Hid (Blk wr wi.heap.size 3 #[.int .i64 r, .int .i64 (-r)])) (fun _ vj _ => 2 - (intOf vj).toNat)
            case atStart => exact ⟨0, rfl, by omega, hJ0, Lib.hid hV0, Lib.hid hR0⟩
            case round =>
              clear hJ0 hR0 hV0
              obtain ⟨j, rfl, hj, ⟨L, hL, hown, hA3, hbel3⟩, hV3, hR3⟩ := hrel
              have hz3 := hbel3.size
              have cA3 := hA3.out.cell; have fA3 := hA3.out.frozen; have lA3 := hA3.out.lt
              by_cases hjt : j < 2
              · have cR : wr.cell? ⟨wi.heap.size, j, none⟩ = some (.int .i64 (sgV j r)) := by
                  rw [hR3.out.cell]
                  obtain rfl | rfl : j = 0 ∨ j = 1 := by omega
                  · rfl
                  · rfl
                have fR := hR3.out.frozen j
                have hub : -2000 ≤ sgV j r ∧ sgV j r ≤ 2000 := by unfold sgV; split <;> omega
                have hlen : L.length ≤ 50000 := Hsub.out L hL.out.nd hL.out.sound
                have hNo := Lib.hid (fun h => PtI.none hL.out Hlt.out hjt h)
                have hPt := Lib.hid (fun h => PtI.point (s := r) (y := y) (n := n) (show 0 < a by omega) Hd.out hss.out Hlt.out hjt h)
                rw [Hv.out] at hNo hPt
                generalize sgV j r = u at *
                have n1 : ¬ w.heap.size = wr.heap.size := by omega
                have lV := hV3.out.lt
                have lR := hR3.out.lt
                by_cases hm : (u - b * v).tmod (2 * a) = 0
                · have km : ((u - b * v).tmod (2 * a) == 0) = true := by rw [beq_iff_eq]; exact hm
                  obtain ⟨hval, hdn⟩ := hPt.out hm
                  obtain ⟨t, ht⟩ : ∃ t, (u - b * v).tdiv (2 * a) = t := ⟨_, rfl⟩
                  have htb : -200000 ≤ t ∧ t ≤ 200000 := by
                    have h1 := Int.natAbs_tdiv_le_natAbs (u - b * v) (2 * a)
                    rw [ht] at h1; omega
                  rw [ht] at hval hdn
                  have htw : wrap64 ((u - b * v).tdiv (2 * a)) = t := by rw [ht]; exact IntWalk.wrap64_in _ (by omega)
                  have hHs := Lib.hid (fun (wx : World) h => vaHas_any u6 w.heap.size L t v wx (by omega) h)
                  have HO := Lib.hid hown
                  have Hval := Lib.hid hval
                  have Hdn := Lib.hid hdn
                  clear hm hNo hPt hval hdn
                  go_wp2_with fail
                  refine (hHs.out _ (own_alloc HO.out)).mono ?_
                  rintro e' v5 ⟨rfl, hB5⟩
                  have hZ5 := hB5.size
                  (try simp at hZ5)
                  have hA5 : Blk v5 w.heap.size 35 #[.int .i64 a, .int .i64 b, .int .i64 c] := Blk.call (Blk.allocp hA3.out) hB5
                  have hV5 : Blk v5 wo.heap.size 3 #[.int .i64 y, .int .i64 (-y)] := Blk.call (Blk.allocp hV3.out) hB5
                  have hR5 : Blk v5 wi.heap.size 3 #[.int .i64 r, .int .i64 (-r)] := Blk.call (Blk.allocp hR3.out) hB5
                  have hP5 : Blk v5 wr.heap.size 37 #[.int .i64 t, .int .i64 v] := Blk.call (Blk.new _ _ _) hB5
                  have cP5 := hP5.cell; have fP5 := hP5.frozen; have lP5 := hP5.lt
                  have ho5 := own_call hB5 (own_alloc (o := .cells #[.int .i64 t, .int .i64 v] 37) HO.out)
                  have hb5 : Below w.heap.size w v5 := below_via hbel3 (show Below wr.heap.size wr v5 from below_via (show Below wr.heap.size wr (wr.alloc (.cells #[.int .i64 t, .int .i64 v] 37)) from (by repeat (first | with_reducible exact Below.refl _ _ | with_reducible assumption | with_reducible apply Below.drew | with_reducible apply below_drewN | (with_reducible apply below_setp; (first | omega | (simp <;> omega))) | (with_reducible apply below_allocp; (first | omega | (simp <;> omega))) | (with_reducible refine below_viap (by assumption) ?_ ?_; (first | omega | (simp <;> omega)))))) hB5 (by simp)) hz3
                  clear hB5 hown
                  by_cases hin : (t, v) ∈ L
                  · have kin : decide ((t, v) ∈ L) = true := decide_eq_true hin
                    have hL4 := Lib.hid (hL.out.got hin (fun q _ h => Hdn.out q h))
                    clear hin hL
                    go_wp2
                    go_roundw
                    case rel => exact ⟨j + 1, by go_num, hjt, ⟨L, hL4, ho5, Lib.hid hA5, hb5⟩, Lib.hid hV5, Lib.hid hR5⟩
                    case measure => simp [intOf]; omega
                  · have kin : decide ((t, v) ∈ L) = false := decide_eq_false hin
                    have hPu := Lib.hid (fun (w : World) (B6 : Nat) h => vaPut_any u6 B6 L t v w (by omega) h)
                    have hAd := Lib.hid (fun k => hL.out.add hin Hval.out (insP_perm L (t, v) k) (fun q _ h => Hdn.out q h))
                    clear hin hL
                    go_wp2_with fail
                    refine (hPu.out _ _ ho5).mono ?_
                    rintro e' v6 ⟨k6, hk6, vq, rfl, ho6, hB6⟩
                    have hA6 : Blk v6 w.heap.size 35 #[.int .i64 a, .int .i64 b, .int .i64 c] := Blk.call hA5 hB6
                    have hV6 : Blk v6 wo.heap.size 3 #[.int .i64 y, .int .i64 (-y)] := Blk.call hV5 hB6
                    have hR6 : Blk v6 wi.heap.size 3 #[.int .i64 r, .int .i64 (-r)] := Blk.call hR5 hB6
                    have hb6 : Below w.heap.size w v6 := below_via hb5 hB6 (by omega)
                    go_wp2
                    go_roundw
                    case rel => exact ⟨j + 1, by go_num, hjt, ⟨insP L (t, v) k6, Lib.hid (hAd.out k6), own_base (by omega) ho6, Lib.hid hA6, hb6⟩, Lib.hid hV6, Lib.hid hR6⟩
                    case measure => simp [intOf]; omega
                · have km : ((u - b * v).tmod (2 * a) == 0) = false := by rw [beq_eq_false_iff_ne]; exact hm
                  have hL4 := Lib.hid (hNo.out hm)
                  clear hm hNo hPt hL
                  go_wp2
                  go_roundw
                  case rel => exact ⟨j + 1, by go_num, hjt, ⟨L, hL4, hown, hA3, hbel3⟩, hV3, hR3⟩
                  case measure => simp [intOf]; omega
              · have ej : j = 2 := by omega
                subst ej
                have hL4 := Lib.hid (hL.out.turn (show 0 < a by omega) Hd.out hss.out Hlt.out)
                clear hL
                go_wp2
                go_roundw
                case rel => exact ⟨i + 1, by go_num, Hlt.out, ⟨L, hL4, hown, hA3, hbel3⟩, hV3, hV3.out.lt⟩
                case measure => (have hlt := Hlt.out; simp [intOf]; omega)
          · have ei : i = 2 := by omega
            subst ei
            have hL3 := Lib.hid hL.out.leave
            clear hL
            go_wp2
            go_roundw
            case rel => exact ⟨y + 1, rfl, by omega, by omega, L, hL3, hown, hA, hbel⟩
            case measure => simp [intOf]; omega
    · have hfin := Lib.hid (hL.out.fin (show 0 < a by omega) Hd.out (by omega) y0 (by rw [Int.neg_neg]; omega))
      have hlx : decide (e * y * y ≤ 4 * a * n) = false := decide_eq_false hle
      have hnd := Lib.hid hL.out.nd
      clear hL hne hne2 hass heyy
      go_wp2
      go_ret
      exact ⟨L, hnd.out, fun x1 x2 => hfin.out (x1, x2), _, rfl, hown, hbel⟩

theorem vaAt_any (d n : Int) (f : Fm) (w : World) (D : Dsc d) (hf : f ∈ clsL d) (h1 : 1 ≤ n) (h2 : n ≤ 10000) :
    Calls Try.prog 129 #[.agg #[.int .i64 f.a, .int .i64 f.b, .int .i64 f.c], .int .i64 n] w (fun e' w' => ∃ L, L.Nodup ∧ (∀ p, p ∈ L ↔ vlP f.a f.b f.c p = n) ∧ RetPs L w e' w') := by
  have cf := cf_self D hf
  have hdc := cf.dc
  obtain ⟨⟨a1, a2, e3, e4, b1, b2, c2⟩, _⟩ := mem_clsL D.lo hf
  have hDc := fun w => foDisc_cf d ⟨f.a, f.b, f.c⟩ f w cf
  have hd0 := D.lo; have hd1 := D.hi
  have h := vaAt_e f.a f.b f.c (-d) n w ⟨by omega, by omega⟩ ⟨by omega, by omega⟩ ⟨by omega, by omega⟩ ⟨h1, h2⟩ (by rw [Int.neg_neg, ← hdc]; unfold disc; rfl) (by rw [Int.neg_neg]; exact hDc) (fun L hL hv => by
    have := len_sub (K := ptsL d n f) hL (fun p hp => (ptsL_mem D hf h1 p.1 p.2).2 (hv p hp))
    exact Nat.le_trans this (pts_len D hf ⟨h1, h2⟩))
  exact h
end Go.Proofs.Ytkpiiicefmkhcaa
