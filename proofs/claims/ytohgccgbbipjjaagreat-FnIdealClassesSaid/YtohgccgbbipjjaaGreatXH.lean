/- Parts ZJ ZL laid together by tp.py. -/
import Derived.Test.YtohgccgbbipjjaaGreatXG
import Derived.Test.YtohgccgbbipjjaaGreatID
import Derived.Test.YtohgccgbbipjjaaGreatUB
namespace Go.Proofs.YtohgccgbbipjjaaGreat
section
open Go.RowKit

theorem no_root {S r t : Int} (h0 : 0 ≤ r) (h1 : r * r ≤ S) (h2 : S < (r + 1) * (r + 1)) (hne : r * r ≠ S) (ht : t * t = S) : False := by
  have h3 : ∀ u : Int, 0 ≤ u → u * u = S → False := fun u hu he => by
    rcases Int.lt_or_le u (r + 1) with h | h
    · rcases Int.lt_or_le r u with h' | h'
      · omega
      · have h4 := Int.mul_le_mul h' h' hu (by omega)
        have h5 : r * r = S := by omega
        exact hne h5
    · have := Int.mul_le_mul h h (by omega) hu
      omega
  rcases Int.le_total 0 t with h | h
  · exact h3 t h ht
  · exact h3 (-t) (by omega) (by rw [Int.neg_mul_neg]; exact ht)
/-- What the search has found. -/
def VaS (a b c n : Int) (D : Int × Int → Prop) (w : World) (v : Value) (wr : World) : Prop :=
  ∃ L, Hid (PtI a b c n D L) ∧ wr.ownsRow w.heap.size 80 2 v L.length (cellsP L) ∧ Hid (Blk wr w.heap.size 29 #[.int .i64 a, .int .i64 b, .int .i64 c]) ∧ Below w.heap.size w wr

set_option maxRecDepth 100000 in
set_option maxHeartbeats 12800000 in
theorem vaAt_w (a b c e n : Int) (w : World) (ha : 1 ≤ a ∧ a ≤ 10000) (hb : -20000 ≤ b ∧ b ≤ 20000) (he : 3 ≤ e ∧ e ≤ 2000) (hn : 1 ≤ n ∧ n ≤ 100) (hd : b * b - 4 * a * c = -e)
    (hDc : ∀ w, Calls Tryz.prog 81 #[.agg #[.int .i64 a, .int .i64 b, .int .i64 c]] w fun e' w' => e' = .returned (.int .i64 (-e)) ∧ Below w.heap.size w w')
    (hsub : ∀ L : List (Int × Int), L.Nodup → (∀ p ∈ L, vlP a b c p = n) → L.length ≤ 100000) :
    Calls Tryz.prog 50 #[.agg #[.int .i64 a, .int .i64 b, .int .i64 c], .int .i64 n] w (fun e' w' => ∃ L, L.Nodup ∧ (∀ p, p ∈ L ↔ vlP a b c p = n) ∧ RetPs L w e' w') := by
  obtain ⟨a1, a2⟩ := ha
  obtain ⟨b1, b2⟩ := hb
  obtain ⟨e1, e2⟩ := he
  obtain ⟨n1, n2⟩ := hn
  have HD := Lib.hid hDc
  have Hsub := Lib.hid hsub
  have Hd := Lib.hid hd
  have an1 : 4 ≤ 4 * a * n := by
    have := Int.mul_le_mul (show (4 : Int) ≤ 4 * a by omega) n1 (by omega) (by omega); omega
  have an2 : 4 * a * n ≤ 4000000 := by
    have := Int.mul_le_mul (show 4 * a ≤ 40000 by omega) n2 (by omega) (by omega); omega
  have a3 : ¬ 2 * a = 0 := by omega
  have a4 : (2 * a == 0) = false := by rw [beq_eq_false_iff_ne]; exact a3
  clear hDc hsub hd
  go_enter Tryz.func50, Tryz.ntmps50
  go_wp2_with (go_at_call 81; (with_reducible refine (HD.out _).mono ?_); rintro e v1 ⟨rfl, hB1⟩; have hZ1 := hB1.size; (try simp at hZ1); (try have zl1 : w.heap.size < v1.heap.size := by omega); (try have ze1 : w.heap.size ≤ v1.heap.size := by omega); (try have zn1 : ¬ w.heap.size = v1.heap.size := by omega); (try have zm1 : ¬ v1.heap.size = w.heap.size := by omega); have hA1 : Blk v1 (w.heap.size) 29 #[.int .i64 a, .int .i64 b, .int .i64 c] := Blk.call (by (repeat (first | with_reducible assumption | (with_reducible apply Blk.new_at; (first | rfl | (simp; done))) | with_reducible apply Blk.store3 | with_reducible apply Blk.store4 | (with_reducible apply Blk.farp; (first | omega | (simp <;> omega))) | with_reducible apply Blk.allocp | with_reducible apply Blk.drew | with_reducible apply Blk.drewN))) hB1; have cA1 := hA1.cell; have fA1 := hA1.frozen; have lA1 := hA1.lt; have mA1 := Nat.ne_of_gt lA1; have nA1 := Nat.ne_of_lt lA1)
  have hS0 : VaS a b c n (fun q => (q.2.natAbs : Int) < 0) w (.slice none 0 0) v1 := ⟨[], Lib.hid PtI.start, World.ownsRow_nil _ _ _ _, Lib.hid hA1, (by repeat (first | with_reducible exact Below.refl _ _ | with_reducible assumption | with_reducible apply Below.drew | with_reducible apply below_drewN | (with_reducible apply below_setp; (first | omega | (simp <;> omega))) | (with_reducible apply below_allocp; (first | omega | (simp <;> omega))) | (with_reducible refine below_viap (by assumption) ?_ ?_; (first | omega | (simp <;> omega)))))⟩
  clear hA1 cA1 fA1 lA1
  go_loopw [6, 7] (fun v vy wr => ∃ y : Int, vy = .int .i64 y ∧ 0 ≤ y ∧ y ≤ 1300 ∧ VaS a b c n (fun q => (q.2.natAbs : Int) < y) w v wr) (fun _ vy _ => (1400 - intOf vy).toNat)
  case atStart => exact ⟨0, rfl, by omega, by omega, hS0⟩
  case round =>
    clear hS0
    obtain ⟨y, rfl, y0, y1, L, hL, hown, hA, hbel⟩ := hrel
    have hz := hbel.size
    have cA := hA.out.cell; have fA := hA.out.frozen; have lA := hA.out.lt
    have hyy : 0 ≤ y * y ∧ y * y ≤ 1300 * 1300 := ⟨Int.mul_nonneg y0 y0, Int.mul_le_mul y1 y1 y0 (by omega)⟩
    have hey : 0 ≤ e * y ∧ e * y ≤ 2000 * 1300 := ⟨Int.mul_nonneg (by omega) y0, Int.mul_le_mul e2 y1 y0 (by omega)⟩
    have heyy : 0 ≤ e * (y * y) ∧ e * (y * y) ≤ 2000 * (1300 * 1300) := ⟨Int.mul_nonneg (by omega) hyy.1, Int.mul_le_mul e2 hyy.2 hyy.1 (by omega)⟩
    have hass : e * y * y = e * (y * y) := Int.mul_assoc _ _ _
    have hne : -e * y = -(e * y) := Int.neg_mul _ _
    have hne2 : -e * y * y = -(e * y * y) := by rw [Int.neg_mul, Int.neg_mul]
    have hwd : wrap64 (e * y) = e * y := IntWalk.wrap64_in _ (by omega)
    have hwe : wrap64 (e * y * y) = e * y * y := IntWalk.wrap64_in _ (by omega)
    by_cases hle : e * y * y ≤ 4 * a * n
    · have hy2 : y ≤ 1200 := by
        apply Int.not_lt.1; intro hl
        have h3 := Int.mul_le_mul (show (1201 : Int) ≤ y by omega) (show (1201 : Int) ≤ y by omega) (by omega) (by omega)
        have h4 := Int.mul_le_mul e1 h3 (by omega) (by omega)
        omega
      obtain ⟨S, hS⟩ : ∃ S, -e * y * y + 4 * a * n = S := ⟨_, rfl⟩
      have s0 : 0 ≤ S := by omega
      have s1 : S ≤ 4000000 := by omega
      have hwa : wrap64 (-e * y) = -e * y := IntWalk.wrap64_in _ (by omega)
      have hwb : wrap64 (-e * y * y) = -e * y * y := IntWalk.wrap64_in _ (by omega)
      have hwc : wrap64 (-e * y * y + 4 * a * n) = S := (IntWalk.wrap64_in _ (by omega)).trans hS
      have hlx : decide (e * y * y ≤ 4 * a * n) = true := decide_eq_true hle
      have hRt := Lib.hid (fun w => nuRoot_any S w s0 (by omega))
      have HS := Lib.hid hS
      clear hS hne hne2 hass heyy
      go_wp2_with fail
      refine (hRt.out _).mono ?_
      rintro e' v2 ⟨⟨r, rfl, r0, r1, r2, r3⟩, rfl⟩
      have rr1 : r * r ≤ 4000000 := by omega
      have rr0 : 0 ≤ r * r := Int.mul_nonneg r0 r0
      have rb : r ≤ 2000 := by
        apply Int.not_lt.1; intro hl
        have := Int.mul_le_mul (show (2001 : Int) ≤ r by omega) (show (2001 : Int) ≤ r by omega) (by omega) (by omega)
        omega
      by_cases hrr : r * r = S
      case neg =>
        have hk : (r * r != S) = true := by rw [bne_iff_ne]; exact hrr
        have hL2 := Lib.hid (hL.out.skip (show 0 < a by omega) Hd.out (fun t ht => no_root r0 r2 r3 hrr (ht.trans HS.out)))
        clear hrr hL
        go_wp2
        go_roundw
        case rel => exact ⟨y + 1, rfl, by omega, by omega, L, hL2, hown, hA, hbel⟩
        case measure => simp [intOf]; omega
      case pos =>
        have hk : (r * r != S) = false := by rw [bne, beq_iff_eq.2 hrr]; rfl
        have hss := Lib.hid (show r * r = -e * y * y + 4 * a * n from hrr.trans HS.out.symm)
        have hL2 := Lib.hid (PtI.into (s := r) hL.out)
        clear hrr hL
        obtain ⟨wo, rfl⟩ : ∃ wo : World, wo = wr := ⟨_, rfl⟩
        have hI0 : VaS a b c n (dnP a b y r 0 0) w u6 (wo.alloc (.cells #[.int .i64 y, .int .i64 (-y)] 3)) := ⟨L, hL2, own_alloc hown, Lib.hid (by have hA2 := hA.out; (repeat (first | with_reducible assumption | (with_reducible apply Blk.new_at; (first | rfl | (simp; done))) | with_reducible apply Blk.store3 | with_reducible apply Blk.store4 | (with_reducible apply Blk.farp; (first | omega | (simp <;> omega))) | with_reducible apply Blk.allocp | with_reducible apply Blk.drew | with_reducible apply Blk.drewN))), (by repeat (first | with_reducible exact Below.refl _ _ | with_reducible assumption | with_reducible apply Below.drew | with_reducible apply below_drewN | (with_reducible apply below_setp; (first | omega | (simp <;> omega))) | (with_reducible apply below_allocp; (first | omega | (simp <;> omega))) | (with_reducible refine below_viap (by assumption) ?_ ?_; (first | omega | (simp <;> omega)))))⟩
        have hV0 : Blk (wo.alloc (.cells #[.int .i64 y, .int .i64 (-y)] 3)) wo.heap.size 3 #[.int .i64 y, .int .i64 (-y)] := Blk.new _ _ _
        clear hL2 hown
        go_wp2
        clear hwa hwb hwc hwd hwe hlx hk
        go_loopw [6, 62] (fun v vi wr => ∃ i : Nat, vi = .int .i64 i ∧ i ≤ 2 ∧ VaS a b c n (dnP a b y r i 0) w v wr ∧ Hid (Blk wr wo.heap.size 3 #[.int .i64 y, .int .i64 (-y)]) ∧ wo.heap.size < wr.heap.size) (fun _ vi _ => 2 - (intOf vi).toNat)
        case atStart => exact ⟨0, rfl, by omega, hI0, Lib.hid hV0, by simp⟩
        case round =>
          clear hI0 hV0
          obtain ⟨i, rfl, hi, ⟨L, hL, hown, hA, hbel⟩, hV, hvs⟩ := hrel
          have hz2 := hbel.size
          by_cases hlt : i < 2
          · have cV : wr.cell? ⟨wo.heap.size, i, none⟩ = some (.int .i64 (sgV i y)) := by
              rw [hV.out.cell]
              obtain rfl | rfl : i = 0 ∨ i = 1 := by omega
              · rfl
              · rfl
            have fV := hV.out.frozen i
            have hvb : -1200 ≤ sgV i y ∧ sgV i y ≤ 1200 := by unfold sgV; split <;> omega
            obtain ⟨v, hv⟩ : ∃ v, sgV i y = v := ⟨_, rfl⟩
            have Hv := Lib.hid hv
            rw [hv] at cV hvb
            clear hv
            obtain ⟨wi, rfl⟩ : ∃ wi : World, wi = wr := ⟨_, rfl⟩
            have hbv : -24000000 ≤ b * v ∧ b * v ≤ 24000000 := by
              have h1 : (b * v).natAbs = b.natAbs * v.natAbs := Int.natAbs_mul _ _
              have h2 := Nat.mul_le_mul (show b.natAbs ≤ 20000 by omega) (show v.natAbs ≤ 1200 by omega)
              omega
            have cA2 := hA.out.cell; have fA2 := hA.out.frozen; have lA2 := hA.out.lt
            have hJ0 : VaS a b c n (dnP a b y r i 0) w u6 (wi.alloc (.cells #[.int .i64 r, .int .i64 (-r)] 3)) := ⟨L, hL, own_alloc hown, Lib.hid (by have hA2 := hA.out; (repeat (first | with_reducible assumption | (with_reducible apply Blk.new_at; (first | rfl | (simp; done))) | with_reducible apply Blk.store3 | with_reducible apply Blk.store4 | (with_reducible apply Blk.farp; (first | omega | (simp <;> omega))) | with_reducible apply Blk.allocp | with_reducible apply Blk.drew | with_reducible apply Blk.drewN))), (by repeat (first | with_reducible exact Below.refl _ _ | with_reducible assumption | with_reducible apply Below.drew | with_reducible apply below_drewN | (with_reducible apply below_setp; (first | omega | (simp <;> omega))) | (with_reducible apply below_allocp; (first | omega | (simp <;> omega))) | (with_reducible refine below_viap (by assumption) ?_ ?_; (first | omega | (simp <;> omega)))))⟩
            have hR0 : Blk (wi.alloc (.cells #[.int .i64 r, .int .i64 (-r)] 3)) wi.heap.size 3 #[.int .i64 r, .int .i64 (-r)] := Blk.new _ _ _
            have hV0 : Blk (wi.alloc (.cells #[.int .i64 r, .int .i64 (-r)] 3)) wo.heap.size 3 #[.int .i64 y, .int .i64 (-y)] := Blk.allocp hV.out
            have Hlt := Lib.hid hlt
            have hdi : decide ((i : Int) < 2) = true := decide_eq_true (by omega)
            clear hown hL
            go_wp2
            clear hlt
            go_loopw [6, 71] (fun vl vj wr => ∃ j : Nat, vj = .int .i64 j ∧ j ≤ 2 ∧ VaS a b c n (dnP a b y r i j) w vl wr ∧ Hid (Blk wr wo.heap.size 3 #[.int .i64 y, .int .i64 (-y)]) ∧ Hid (Blk wr wi.heap.size 3 #[.int .i64 r, .int .i64 (-r)])) (fun _ vj _ => 2 - (intOf vj).toNat)
            case atStart => exact ⟨0, rfl, by omega, hJ0, Lib.hid hV0, Lib.hid hR0⟩
            case round =>
              clear hJ0 hR0 hV0
              obtain ⟨j, rfl, hj, ⟨L, hL, hown, hA3, hbel3⟩, hV3, hR3⟩ := hrel
              have hz3 := hbel3.size
              have cA3 := hA3.out.cell; have fA3 := hA3.out.frozen; have lA3 := hA3.out.lt
              by_cases hjt : j < 2
              · have cR : wr.cell? ⟨wi.heap.size, j, none⟩ = some (.int .i64 (sgV j r)) := by
                  rw [hR3.out.cell]
                  obtain rfl | rfl : j = 0 ∨ j = 1 := by omega
                  · rfl
                  · rfl
                have fR := hR3.out.frozen j
                have hub : -2000 ≤ sgV j r ∧ sgV j r ≤ 2000 := by unfold sgV; split <;> omega
                have hlen : L.length ≤ 100000 := Hsub.out L hL.out.nd hL.out.sound
                have hNo := Lib.hid (fun h => PtI.none hL.out Hlt.out hjt h)
                have hPt := Lib.hid (fun h => PtI.point (s := r) (y := y) (n := n) (show 0 < a by omega) Hd.out hss.out Hlt.out hjt h)
                rw [Hv.out] at hNo hPt
                generalize sgV j r = u at *
                have n1 : ¬ w.heap.size = wr.heap.size := by omega
                have lV := hV3.out.lt
                have lR := hR3.out.lt
                by_cases hm : (u - b * v).tmod (2 * a) = 0
                · have km : ((u - b * v).tmod (2 * a) == 0) = true := by rw [beq_iff_eq]; exact hm
                  obtain ⟨hval, hdn⟩ := hPt.out hm
                  obtain ⟨t, ht⟩ : ∃ t, (u - b * v).tdiv (2 * a) = t := ⟨_, rfl⟩
                  have htb : -30000000 ≤ t ∧ t ≤ 30000000 := by
                    have h1 := Int.natAbs_tdiv_le_natAbs (u - b * v) (2 * a)
                    rw [ht] at h1; omega
                  rw [ht] at hval hdn
                  have htw : wrap64 ((u - b * v).tdiv (2 * a)) = t := by rw [ht]; exact IntWalk.wrap64_in _ (by omega)
                  have hHs := Lib.hid (fun (wx : World) h => vaHas_any u6 w.heap.size L t v wx (by omega) h)
                  have HO := Lib.hid hown
                  have Hval := Lib.hid hval
                  have Hdn := Lib.hid hdn
                  clear hm hNo hPt hval hdn
                  go_wp2_with fail
                  refine (hHs.out _ (own_alloc HO.out)).mono ?_
                  rintro e' v5 ⟨rfl, hB5⟩
                  have hZ5 := hB5.size
                  (try simp at hZ5)
                  have hA5 : Blk v5 w.heap.size 29 #[.int .i64 a, .int .i64 b, .int .i64 c] := Blk.call (Blk.allocp hA3.out) hB5
                  have hV5 : Blk v5 wo.heap.size 3 #[.int .i64 y, .int .i64 (-y)] := Blk.call (Blk.allocp hV3.out) hB5
                  have hR5 : Blk v5 wi.heap.size 3 #[.int .i64 r, .int .i64 (-r)] := Blk.call (Blk.allocp hR3.out) hB5
                  have hP5 : Blk v5 wr.heap.size 80 #[.int .i64 t, .int .i64 v] := Blk.call (Blk.new _ _ _) hB5
                  have cP5 := hP5.cell; have fP5 := hP5.frozen; have lP5 := hP5.lt
                  have ho5 := own_call hB5 (own_alloc (o := .cells #[.int .i64 t, .int .i64 v] 80) HO.out)
                  have hb5 : Below w.heap.size w v5 := below_via hbel3 (show Below wr.heap.size wr v5 from below_via (show Below wr.heap.size wr (wr.alloc (.cells #[.int .i64 t, .int .i64 v] 80)) from (by repeat (first | with_reducible exact Below.refl _ _ | with_reducible assumption | with_reducible apply Below.drew | with_reducible apply below_drewN | (with_reducible apply below_setp; (first | omega | (simp <;> omega))) | (with_reducible apply below_allocp; (first | omega | (simp <;> omega))) | (with_reducible refine below_viap (by assumption) ?_ ?_; (first | omega | (simp <;> omega)))))) hB5 (by simp)) hz3
                  clear hB5 hown
                  by_cases hin : (t, v) ∈ L
                  · have kin : decide ((t, v) ∈ L) = true := decide_eq_true hin
                    have hL4 := Lib.hid (hL.out.got hin (fun q _ h => Hdn.out q h))
                    clear hin hL
                    go_wp2
                    go_roundw
                    case rel => exact ⟨j + 1, by go_num, hjt, ⟨L, hL4, ho5, Lib.hid hA5, hb5⟩, Lib.hid hV5, Lib.hid hR5⟩
                    case measure => simp [intOf]; omega
                  · have kin : decide ((t, v) ∈ L) = false := decide_eq_false hin
                    have hPu := Lib.hid (fun (w : World) (B6 : Nat) h => vaPut_any u6 B6 L t v w (by omega) h)
                    have hAd := Lib.hid (fun k => hL.out.add hin Hval.out (insP_perm L (t, v) k) (fun q _ h => Hdn.out q h))
                    clear hin hL
                    go_wp2_with fail
                    refine (hPu.out _ _ ho5).mono ?_
                    rintro e' v6 ⟨k6, hk6, vq, rfl, ho6, hB6⟩
                    have hA6 : Blk v6 w.heap.size 29 #[.int .i64 a, .int .i64 b, .int .i64 c] := Blk.call hA5 hB6
                    have hV6 : Blk v6 wo.heap.size 3 #[.int .i64 y, .int .i64 (-y)] := Blk.call hV5 hB6
                    have hR6 : Blk v6 wi.heap.size 3 #[.int .i64 r, .int .i64 (-r)] := Blk.call hR5 hB6
                    have hb6 : Below w.heap.size w v6 := below_via hb5 hB6 (by omega)
                    go_wp2
                    go_roundw
                    case rel => exact ⟨j + 1, by go_num, hjt, ⟨insP L (t, v) k6, Lib.hid (hAd.out k6), own_base (by omega) ho6, Lib.hid hA6, hb6⟩, Lib.hid hV6, Lib.hid hR6⟩
                    case measure => simp [intOf]; omega
                · have km : ((u - b * v).tmod (2 * a) == 0) = false := by rw [beq_eq_false_iff_ne]; exact hm
                  have hL4 := Lib.hid (hNo.out hm)
                  clear hm hNo hPt hL
                  go_wp2
                  go_roundw
                  case rel => exact ⟨j + 1, by go_num, hjt, ⟨L, hL4, hown, hA3, hbel3⟩, hV3, hR3⟩
                  case measure => simp [intOf]; omega
              · have ej : j = 2 := by omega
                subst ej
                have hL4 := Lib.hid (hL.out.turn (show 0 < a by omega) Hd.out hss.out Hlt.out)
                clear hL
                go_wp2
                go_roundw
                case rel => exact ⟨i + 1, by go_num, Hlt.out, ⟨L, hL4, hown, hA3, hbel3⟩, hV3, hV3.out.lt⟩
                case measure => (have hlt := Hlt.out; simp [intOf]; omega)
          · have ei : i = 2 := by omega
            subst ei
            have hL3 := Lib.hid hL.out.leave
            clear hL
            go_wp2
            go_roundw
            case rel => exact ⟨y + 1, rfl, by omega, by omega, L, hL3, hown, hA, hbel⟩
            case measure => simp [intOf]; omega
    · have hfin := Lib.hid (hL.out.fin (show 0 < a by omega) Hd.out (by omega) y0 (by rw [Int.neg_neg]; omega))
      have hlx : decide (e * y * y ≤ 4 * a * n) = false := decide_eq_false hle
      have hnd := Lib.hid hL.out.nd
      clear hL hne hne2 hass heyy
      go_wp2
      go_ret
      exact ⟨L, hnd.out, fun x1 x2 => hfin.out (x1, x2), _, rfl, hown, hbel⟩

/-- The elements of an ideal with its norm, as points of the opposite form. -/
def elP (a b : Int) (p : Int × Int) : Int × Int := (2 * a * p.1 - b * p.2, p.2)
theorem gn_iff {d a b c : Int} (ha : 0 < a) (hc : b * b - d = 4 * a * c) (z : Int × Int) : Gn d a b z ↔ ∃ p, vlP a (-b) c p = 1 ∧ z = elP a b p := by
  obtain ⟨u, v⟩ := z
  unfold Gn vlP elP
  have hd : d = b * b - 4 * a * c := by omega
  constructor
  · rintro ⟨h1, k, hk⟩
    simp only at h1 hk
    refine ⟨(k, v), ?_, ?_⟩
    · simp only
      have hu : u = 2 * a * k - b * v := by omega
      have e1 : 4 * a * (a * k * k + -b * k * v + c * v * v) = 4 * a * 1 := by
        rw [hd, hu] at h1
        rw [Int.mul_one, ← h1]; grind
      exact Int.eq_of_mul_eq_mul_left (by omega) e1
    · simp only
      exact Prod.ext (by show u = 2 * a * k - b * v; omega) rfl
  · rintro ⟨⟨x, y⟩, h, he⟩
    obtain ⟨rfl, rfl⟩ := Prod.mk.inj he
    simp only at h ⊢
    refine ⟨?_, x, by omega⟩
    have e1 : (2 * a * x - b * v) * (2 * a * x - b * v) - d * v * v = 4 * a * (a * x * x + -b * x * v + c * v * v) := by rw [hd]; grind
    rw [e1, h, Int.mul_one]
/-- The least value of a reduced form. -/
theorem red_min {a b c x y : Int} (ha : 0 < a) (hb : -a ≤ b ∧ b ≤ a) (hac : a ≤ c) (h1 : a * x * x + b * x * y + c * y * y = 1) : a = 1 := by
  have hyy := sqnG y
  have hxx := sqnG x
  have hcy : a * (y * y) ≤ c * (y * y) := Int.mul_le_mul_of_nonneg_right hac hyy
  have e : a * x * x + b * x * y + c * y * y = a * (x * x) + b * (x * y) + c * (y * y) := by grind
  rw [e] at h1
  have key : ∀ t : Int, a * t ≤ 1 → 0 < t → a = 1 := fun t h2 h3 => by
    have := Int.mul_le_mul_of_nonneg_left (show 1 ≤ t by omega) (show 0 ≤ a by omega)
    omega
  rcases Int.le_total 0 (x * y) with h | h
  · have hbz : -a * (x * y) ≤ b * (x * y) := Int.mul_le_mul_of_nonneg_right hb.1 h
    have e1 : a * (x * x - x * y + y * y) = a * (x * x) + -a * (x * y) + a * (y * y) := by grind
    have hq : a * (x * x - x * y + y * y) ≤ 1 := by omega
    refine key _ hq ?_
    have s1 := sqnG (2 * x - y)
    have e2 : (2 * x - y) * (2 * x - y) = 4 * (x * x) - 4 * (x * y) + y * y := by grind
    apply Int.not_le.1
    intro hl
    have hy0 : y * y = 0 := by omega
    have hx0 : y = 0 := by rcases Int.mul_eq_zero.1 hy0 with h | h <;> exact h
    subst hx0
    have hx1 : x * x = 0 := by simp at hl; omega
    rw [hx1] at h1
    simp at h1
  · have hbz : a * (x * y) ≤ b * (x * y) := by
      have := Int.mul_le_mul_of_nonneg_right hb.2 (show 0 ≤ -(x * y) by omega)
      rw [Int.mul_neg, Int.mul_neg] at this
      omega
    have e1 : a * (x * x + x * y + y * y) = a * (x * x) + a * (x * y) + a * (y * y) := by grind
    have hq : a * (x * x + x * y + y * y) ≤ 1 := by omega
    refine key _ hq ?_
    have s1 := sqnG (2 * x + y)
    have e2 : (2 * x + y) * (2 * x + y) = 4 * (x * x) + 4 * (x * y) + y * y := by grind
    apply Int.not_le.1
    intro hl
    have hy0 : y * y = 0 := by omega
    have hx0 : y = 0 := by rcases Int.mul_eq_zero.1 hy0 with h | h <;> exact h
    subst hx0
    have hx1 : x * x = 0 := by simp at hl; omega
    rw [hx1] at h1
    simp at h1
theorem at_actM (g : Fm) (m : M4) (x y : Int) : atF (actM g m).a (actM g m).b (actM g m).c x y = atF g.a g.b g.c (m.p * x + m.q * y) (m.r * x + m.s * y) := by
  unfold actM atF polF
  grind
theorem vl_opp (a b c x y : Int) : vlP a (-b) c (x, -y) = atF a b c x y := by
  unfold vlP atF
  simp only
  grind
/-- An ideal is principal just if an element of it has its norm. -/
theorem cls_one {d e a b c : Int} (V : IdV d e a b) (hc : b * b - d = 4 * a * c) : red ⟨a, b, c⟩ = oneF d ↔ ∃ p, vlP a (-b) c p = 1 := by
  have hD := V.def hc
  have hdisc := V.disc hc
  obtain ⟨hm, hdet⟩ := redM_act hD
  have hr := red_isRed hD
  have hd := red_disc hD
  rw [isRed_iff] at hr
  have hD2 := red_def hD
  have a0 := hD2.a0
  generalize redM ⟨a, b, c⟩ M4.one = m at *
  constructor
  · intro h
    refine ⟨(m.p, -m.r), ?_⟩
    rw [vl_opp]
    have : (red ⟨a, b, c⟩).a = atF a b c m.p m.r := by rw [← hm]; rfl
    rw [← this, h]; rfl
  · rintro ⟨⟨x, y⟩, hp⟩
    have h1 : atF a b c x (-y) = 1 := by rw [← vl_opp, Int.neg_neg]; exact hp
    have h2 : atF (red ⟨a, b, c⟩).a (red ⟨a, b, c⟩).b (red ⟨a, b, c⟩).c (m.s * x - m.q * (-y)) (-m.r * x + m.p * (-y)) = 1 := by
      rw [← hm, at_actM]
      have hdt : m.p * m.s - m.q * m.r = 1 := hdet
      have e1 : m.p * (m.s * x - m.q * (-y)) + m.q * (-m.r * x + m.p * (-y)) = x := by
        have : m.p * (m.s * x - m.q * (-y)) + m.q * (-m.r * x + m.p * (-y)) = (m.p * m.s - m.q * m.r) * x := by grind
        rw [this, hdt, Int.one_mul]
      have e2 : m.r * (m.s * x - m.q * (-y)) + m.s * (-m.r * x + m.p * (-y)) = -y := by
        have : m.r * (m.s * x - m.q * (-y)) + m.s * (-m.r * x + m.p * (-y)) = (m.p * m.s - m.q * m.r) * (-y) := by grind
        rw [this, hdt, Int.one_mul]
      rw [e1, e2]; exact h1
    have ha1 := red_min a0 ⟨by omega, by omega⟩ (by omega) h2
    rw [hdisc] at hd
    have h4 := V.dsc.lo
    have h5 : d % 4 < 2 := by have := V.dc; unfold isDisc at this; simp only [Bool.and_eq_true, decide_eq_true_eq] at this; omega
    generalize red ⟨a, b, c⟩ = R at *
    obtain ⟨ra, rb, rc⟩ := R
    simp only at ha1 hr hd
    subst ha1
    unfold disc at hd
    simp only at hd
    have hb : rb = 0 ∨ rb = 1 := by omega
    unfold oneF
    rcases hb with rfl | rfl
    · have e1 : d % 2 = 0 := by omega
      rw [e1]
      congr 1; omega
    · have e1 : d % 2 = 1 := by omega
      rw [e1]
      congr 1; omega
theorem fm3_casesZ (r1 r2 r3 q1 q2 q3 : Int) : (r1 = q1 ∧ r2 = q2 ∧ r3 = q3) ∨ (r1 == q1) = false ∨ (r1 = q1 ∧ (r2 == q2) = false) ∨ (r1 = q1 ∧ r2 = q2 ∧ (r3 == q3) = false) := by
  by_cases h1 : r1 = q1
  · by_cases h2 : r2 = q2
    · by_cases h3 : r3 = q3
      · exact .inl ⟨h1, h2, h3⟩
      · exact .inr (.inr (.inr ⟨h1, h2, beq_eq_false_iff_ne.2 h3⟩))
    · exact .inr (.inr (.inl ⟨h1, beq_eq_false_iff_ne.2 h2⟩))
  · exact .inr (.inl (beq_eq_false_iff_ne.2 h1))
/-- Few points have the value 1. -/
theorem one_few {a b c d : Int} (ha : 1 ≤ a ∧ a ≤ 10000) (hc : b * b - 4 * a * c = d) (hd : d ≤ -3) (L : List (Int × Int)) (hn : L.Nodup) (hL : ∀ p ∈ L, vlP a b c p = 1) : L.length ≤ 100000 := by
  have box : ∀ p ∈ L, (twP a b p, p.2) ∈ (List.range 403).flatMap fun i : Nat => (List.range 240).map fun j : Nat => (((i : Int) - 201, (j : Int) - 119) : Int × Int) := by
    intro p hp
    have h1 := (tw_iff (by omega) hc p).1 (hL p hp)
    have h2 := sqnG p.2
    have h3 := sqnG (twP a b p)
    have e1 : d * p.2 * p.2 = d * (p.2 * p.2) := Int.mul_assoc _ _ _
    rw [e1] at h1
    have h4 : (-d) * (p.2 * p.2) = -(d * (p.2 * p.2)) := Int.neg_mul _ _
    have h5 : 3 * (p.2 * p.2) ≤ (-d) * (p.2 * p.2) := Int.mul_le_mul_of_nonneg_right (by omega) h2
    have key : ∀ (t B : Int), 0 ≤ B → t * t ≤ B * B → t ≤ B := fun t B hB ht => by
      apply Int.not_lt.1; intro hl
      have := Int.mul_le_mul (show B + 1 ≤ t by omega) (show B + 1 ≤ t by omega) (by omega) (by omega)
      have e : (B + 1) * (B + 1) = B * B + 2 * B + 1 := by grind
      omega
    have k1 := key p.2 116 (by omega) (by omega)
    have k2 := key (-p.2) 116 (by omega) (by rw [Int.neg_mul_neg]; omega)
    have k3 := key (twP a b p) 200 (by omega) (by omega)
    have k4 := key (-(twP a b p)) 200 (by omega) (by rw [Int.neg_mul_neg]; omega)
    rw [List.mem_flatMap]
    refine ⟨(twP a b p + 201).toNat, List.mem_range.2 (by omega), List.mem_map.2 ⟨(p.2 + 119).toNat, List.mem_range.2 (by omega), ?_⟩⟩
    exact Prod.ext (by show (((twP a b p + 201).toNat : Nat) : Int) - 201 = _; omega) (by show (((p.2 + 119).toNat : Nat) : Int) - 119 = _; omega)
  have hnm : (L.map fun p => (twP a b p, p.2)).Nodup := by
    refine List.Pairwise.map _ (R := fun x y => x ≠ y) (fun p q hne he => hne ?_) hn
    obtain ⟨h1, h2⟩ := Prod.mk.inj he
    unfold twP at h1
    rw [h2] at h1
    have h3 : 2 * a * p.1 = 2 * a * q.1 := by omega
    exact Prod.ext (Int.eq_of_mul_eq_mul_left (by omega) h3) h2
  have := len_sub hnm (fun z hz => by
    obtain ⟨p, hp, rfl⟩ := List.mem_map.1 hz
    exact box p hp)
  rw [List.length_map] at this
  refine Nat.le_trans this ?_
  decide +kernel
theorem foOpp_z (a b c : Int) (w : World) (hb : -1000000 ≤ b ∧ b ≤ 1000000) : Calls Tryz.prog 51 #[.agg #[.int .i64 a, .int .i64 b, .int .i64 c]] w fun x w' => x = .returned (.agg #[.int .i64 a, .int .i64 (-b), .int .i64 c]) ∧ Below w.heap.size w w' := by
  have h1 : wrap64 (-b) = -b := IntWalk.wrap64_in _ (by omega)
  go_enter Tryz.func51, Tryz.ntmps51
  go_wp2
  exact bodyPost_ret (v := .agg #[.int .i64 a, .int .i64 (-b), .int .i64 c]) (by simp [results, Tryz.results51, go_sem, *]) rfl ⟨rfl, (by repeat (first | with_reducible exact Below.refl _ _ | with_reducible assumption | with_reducible apply Below.drew | with_reducible apply below_drewN | (with_reducible apply below_setp; (first | omega | (simp <;> omega))) | (with_reducible apply below_allocp; (first | omega | (simp <;> omega))) | (with_reducible refine below_viap (by assumption) ?_ ?_; (first | omega | (simp <;> omega)))))⟩
set_option maxHeartbeats 1600000 in
theorem specGO_no (d e a b : Int) (w : World) (hd : DrawnE d) (h : (piB d && idB d e a b) = false) : Calls Tryz.prog 17 #[.int .i64 d, .agg #[.int .i64 e, .int .i64 a, .int .i64 b]] w fun x w' => x = .returned (.tuple #[.int .i64 0, .int .i64 0, .bool false]) ∧ Below w.heap.size w w' := by
  have hW := Lib.hid (fun w => piGood_any d e a b w hd)
  rw [h] at hW
  clear h hd
  go_enter Tryz.func17, Tryz.ntmps17
  go_wp2_with (go_at_call 22; (with_reducible refine (hW.out _).mono ?_); rintro e v1 ⟨rfl, hB1⟩; have hZ1 := hB1.size; (try simp at hZ1); (try have zl1 : w.heap.size < v1.heap.size := by omega); (try have ze1 : w.heap.size ≤ v1.heap.size := by omega); (try have zn1 : ¬ w.heap.size = v1.heap.size := by omega); (try have zm1 : ¬ v1.heap.size = w.heap.size := by omega); have hX1 : Blk v1 (w.heap.size) 25 #[.int .i64 e, .int .i64 a, .int .i64 b] := Blk.call (by (repeat (first | with_reducible assumption | (with_reducible apply Blk.new_at; (first | rfl | (simp; done))) | with_reducible apply Blk.store3 | with_reducible apply Blk.store4 | (with_reducible apply Blk.farp; (first | omega | (simp <;> omega))) | with_reducible apply Blk.allocp | with_reducible apply Blk.drew | with_reducible apply Blk.drewN))) hB1; have cX1 := hX1.cell; have fX1 := hX1.frozen; have lX1 := hX1.lt; have mX1 := Nat.ne_of_gt lX1; have nX1 := Nat.ne_of_lt lX1)
  go_ret3
  exact ⟨rfl, (by repeat (first | with_reducible exact Below.refl _ _ | with_reducible assumption | with_reducible apply Below.drew | with_reducible apply below_drewN | (with_reducible apply below_setp; (first | omega | (simp <;> omega))) | (with_reducible apply below_allocp; (first | omega | (simp <;> omega))) | (with_reducible refine below_viap (by assumption) ?_ ?_; (first | omega | (simp <;> omega)))))⟩
theorem own_set_ne {w : World} {B n sz N : Nat} {e : TypeId} {v : Value} {xs : List Value} (h : w.ownsRow B e sz v n xs) (hk : ∀ k, v.ownBlock = some k → k ≠ N) {i : Nat} (u : Value) : (w.setCell ⟨N, i, none⟩ u).ownsRow B e sz v n xs := by
  refine ⟨h.1, ?_⟩
  rcases h.2 with hn | ⟨g, cap, cur, hv, hg, hh, r⟩
  · exact .inl hn
  · refine .inr ⟨g, cap, cur, hv, hg, ?_, r⟩
    rw [Below.heap_setCell w ⟨N, i, none⟩ u g (hk g (by rw [hv]; rfl))]
    exact hh
/-- What the search over the points has found. -/
def PKg (L : List (Int × Int)) (a b : Int) (k : Nat) (z : Int × Int) : Prop := ∃ p ∈ L.take k, z = elP a b p
theorem pk_next {L : List (Int × Int)} {a b : Int} {k : Nat} (h : k < L.length) (z : Int × Int) : PKg L a b (k + 1) z ↔ PKg L a b k z ∨ z = elP a b L[k] := by
  unfold PKg
  rw [List.take_succ_eq_append_getElem h]
  constructor
  · rintro ⟨p, hp, hz⟩
    rcases List.mem_append.1 hp with hp | hp
    · exact .inl ⟨p, hp, hz⟩
    · rw [List.mem_singleton] at hp; rw [hp] at hz; exact .inr hz
  · rintro (⟨p, hp, hz⟩ | hz)
    · exact ⟨p, List.mem_append_left _ hp, hz⟩
    · exact ⟨_, List.mem_append_right _ (by simp), hz⟩
def GoS2 (P : Int × Int → Prop) (e : Int) (bb : Nat) (W : World) (vf : Value) (wr : World) : Prop := ∃ (f : Bool) (q : Int × Int), vf = .bool f ∧ Hid (BestI P f q) ∧ Hid (f = false → q = (0, 0)) ∧ Hid ((-1000 ≤ q.1 ∧ q.1 ≤ 1000) ∧ (-1000 ≤ q.2 ∧ q.2 ≤ 1000)) ∧ Blk wr bb 76 #[.int .i64 (e * q.1), .int .i64 (e * q.2)] ∧ Below bb W wr
/-- An element with the norm of an ideal is small. -/
theorem gn_small {d a b : Int} (hd : d ≤ -3) (ha : 1 ≤ a ∧ a ≤ 10000) {z : Int × Int} (h : Gn d a b z) : (-1000 ≤ z.1 ∧ z.1 ≤ 1000) ∧ (-1000 ≤ z.2 ∧ z.2 ≤ 1000) := by
  have h1 := h.1
  have h2 := sqnG z.2
  have h3 := sqnG z.1
  have e1 : d * z.2 * z.2 = d * (z.2 * z.2) := Int.mul_assoc _ _ _
  rw [e1] at h1
  have h4 : (-d) * (z.2 * z.2) = -(d * (z.2 * z.2)) := Int.neg_mul _ _
  have h5 : 3 * (z.2 * z.2) ≤ (-d) * (z.2 * z.2) := Int.mul_le_mul_of_nonneg_right (by omega) h2
  have key : ∀ (t B : Int), 0 ≤ B → t * t ≤ B * B → t ≤ B := fun t B hB ht => by
    apply Int.not_lt.1; intro hl
    have := Int.mul_le_mul (show B + 1 ≤ t by omega) (show B + 1 ≤ t by omega) (by omega) (by omega)
    have e : (B + 1) * (B + 1) = B * B + 2 * B + 1 := by grind
    omega
  have k1 := key z.2 1000 (by omega) (by omega)
  have k2 := key (-z.2) 1000 (by omega) (by rw [Int.neg_mul_neg]; omega)
  have k3 := key z.1 1000 (by omega) (by omega)
  have k4 := key (-z.1) 1000 (by omega) (by rw [Int.neg_mul_neg]; omega)
  omega
end

section
open Go.RowKit
set_option maxRecDepth 100000 in
set_option maxHeartbeats 12800000 in
theorem specGO_any (d e a b : Int) (w : World) (hd : DrawnE d) (hp : piB d = true) (V : IdV d e a b) : Calls Tryz.prog 17 #[.int .i64 d, .agg #[.int .i64 e, .int .i64 a, .int .i64 b]] w (RetGo (Gn d a b) e w) := by
  have hW := Lib.hid (fun w => piGood_any d e a b w hd)
  rw [hp, idB_iff.2 V] at hW
  obtain ⟨c, hc, hc1, hc2, _⟩ := V.form
  have hcl := V.c_le hc
  have hone := cls_one V hc
  obtain ⟨⟨d1, d2⟩, d4⟩ := piB_d hp
  have va1 := V.a1; have va2 := V.a2; have vb0 := V.b0; have vb2 := V.b2; have ve1 := V.e1; have ve2 := V.e2
  have hGi := Lib.hid (gn_iff (d := d) (a := a) (b := b) (c := c) (by omega) hc)
  have D := V.dsc
  obtain ⟨r, hr⟩ : ∃ r, red ⟨a, b, c⟩ = r := ⟨_, rfl⟩
  obtain ⟨o, ho⟩ : ∃ o, oneF d = o := ⟨_, rfl⟩
  have hPc := Lib.hid (fun w => piClass_any d e a b c r w V hc hr)
  have hOn := Lib.hid (fun w => coOne_any d o w D ho)
  rw [hr, ho] at hone
  have hsm := Lib.hid (fun z (h : Gn d a b z) => gn_small (by omega) ⟨va1, va2⟩ h)
  have hIf := Lib.hid (fun w => idForm_any d e a b c w ⟨va1, va2⟩ ⟨vb0, by omega⟩ ⟨d1, by omega⟩ hc)
  have hOp := Lib.hid (fun w => foOpp_z a b c w (by omega))
  have hdd : (-b) * (-b) - 4 * a * c = d := by rw [Int.neg_mul_neg]; omega
  have hDs : ∀ w, Calls Tryz.prog 81 #[.agg #[.int .i64 a, .int .i64 (-b), .int .i64 c]] w fun e' w' => e' = .returned (.int .i64 (-(-d))) ∧ Below w.heap.size w w' := fun w => by
    have m1 := mul_bd (a := -b) (x := -b) (A := 20000) (X := 20000) (by omega) (by omega) (by omega) (by omega)
    have m2 := mul_bd (a := 4 * a) (x := c) (A := 40000) (X := 10500) (by omega) (by omega) (by omega) (by omega)
    have h := sdisc_any a (-b) c w (by unfold Far; omega) (by unfold Far; omega) (by unfold Far; omega)
    have e1 : disc ⟨a, -b, c⟩ = -(-d) := by unfold disc; show -b * -b - 4 * a * c = _; omega
    rw [e1] at h
    exact h
  have hVa := Lib.hid (fun w => vaAt_w a (-b) c (-d) 1 w ⟨va1, va2⟩ ⟨by omega, by omega⟩ ⟨by omega, by omega⟩ ⟨by omega, by omega⟩ (by omega) hDs (fun L hn hL => one_few ⟨va1, va2⟩ hdd (by omega) L hn hL))
  have hfew := Lib.hid (fun L hn hL => one_few (a := a) (b := -b) (c := c) (d := d) ⟨va1, va2⟩ hdd (by omega) L hn hL)
  have HAB := Lib.hid (show (1 ≤ a ∧ a ≤ 10000) ∧ (0 ≤ b ∧ b ≤ 20000) ∧ (1 ≤ e ∧ e ≤ 10000) by omega)
  clear hDs hdd hd hp V hc hcl d1 d2 d4 hr ho D va1 va2 vb0 vb2 ve1 ve2 hc1 hc2
  obtain ⟨G, hG⟩ : ∃ G, Gn d a b = G := ⟨_, rfl⟩
  rw [hG] at hGi hsm ⊢
  clear hG
  obtain ⟨r1, r2, r3⟩ := r
  obtain ⟨o1, o2, o3⟩ := o
  have hcase := fm3_casesZ r1 r2 r3 o1 o2 o3
  dsimp only at hPc hOn
  have hno : ∀ h : ¬ ((⟨r1, r2, r3⟩ : Fm) = ⟨o1, o2, o3⟩), BestI G false (0, 0) := fun h => ⟨fun _ z hz => h (hone.2 (by obtain ⟨p, hp, _⟩ := (hGi.out z).1 hz; exact ⟨p, hp⟩)), fun h => by cases h⟩
  have hyes : ∀ h : (⟨r1, r2, r3⟩ : Fm) = ⟨o1, o2, o3⟩, ∃ p, vlP a (-b) c p = 1 := fun h => hone.1 h
  rcases hcase with ⟨rfl, rfl, rfl⟩ | hne | ⟨rfl, hne⟩ | ⟨rfl, rfl, hne⟩
  rotate_left
  · have HN := Lib.hid (hno (fun h => by injection h with h1 h2 h3; simp_all))
    clear hno hyes hone
    go_enter Tryz.func17, Tryz.ntmps17
    go_wp2_with (first | (go_at_call 22; (with_reducible refine (hW.out _).mono ?_); rintro e v1 ⟨rfl, hB1⟩; have hZ1 := hB1.size; (try simp at hZ1); (try have zl1 : w.heap.size < v1.heap.size := by omega); (try have ze1 : w.heap.size ≤ v1.heap.size := by omega); (try have zn1 : ¬ w.heap.size = v1.heap.size := by omega); (try have zm1 : ¬ v1.heap.size = w.heap.size := by omega); have hX1 : Blk v1 (w.heap.size) 25 #[.int .i64 e, .int .i64 a, .int .i64 b] := Blk.call (by (repeat (first | with_reducible assumption | (with_reducible apply Blk.new_at; (first | rfl | (simp; done))) | with_reducible apply Blk.store3 | with_reducible apply Blk.store4 | (with_reducible apply Blk.farp; (first | omega | (simp <;> omega))) | with_reducible apply Blk.allocp | with_reducible apply Blk.drew | with_reducible apply Blk.drewN))) hB1; have cX1 := hX1.cell; have fX1 := hX1.frozen; have lX1 := hX1.lt; have mX1 := Nat.ne_of_gt lX1; have nX1 := Nat.ne_of_lt lX1) | (go_at_call 29; (with_reducible refine (hPc.out _).mono ?_); rintro e v2 ⟨rfl, hB2⟩; have hZ2 := hB2.size; (try simp at hZ2); (try have zl2 : w.heap.size < v2.heap.size := by omega); (try have ze2 : w.heap.size ≤ v2.heap.size := by omega); (try have zn2 : ¬ w.heap.size = v2.heap.size := by omega); (try have zm2 : ¬ v2.heap.size = w.heap.size := by omega); have hX2 : Blk v2 (w.heap.size) 25 #[.int .i64 e, .int .i64 a, .int .i64 b] := Blk.call (by (repeat (first | with_reducible assumption | (with_reducible apply Blk.new_at; (first | rfl | (simp; done))) | with_reducible apply Blk.store3 | with_reducible apply Blk.store4 | (with_reducible apply Blk.farp; (first | omega | (simp <;> omega))) | with_reducible apply Blk.allocp | with_reducible apply Blk.drew | with_reducible apply Blk.drewN))) hB2; have cX2 := hX2.cell; have fX2 := hX2.frozen; have lX2 := hX2.lt; have mX2 := Nat.ne_of_gt lX2; have nX2 := Nat.ne_of_lt lX2) | (go_at_call 49; (with_reducible refine (hOn.out _).mono ?_); rintro e v3 ⟨rfl, hB3⟩; have hZ3 := hB3.size; (try simp at hZ3); (try have zl3 : w.heap.size < v3.heap.size := by omega); (try have ze3 : w.heap.size ≤ v3.heap.size := by omega); (try have zn3 : ¬ w.heap.size = v3.heap.size := by omega); (try have zm3 : ¬ v3.heap.size = w.heap.size := by omega); have hX3 : Blk v3 (w.heap.size) 25 #[.int .i64 e, .int .i64 a, .int .i64 b] := Blk.call (by (repeat (first | with_reducible assumption | (with_reducible apply Blk.new_at; (first | rfl | (simp; done))) | with_reducible apply Blk.store3 | with_reducible apply Blk.store4 | (with_reducible apply Blk.farp; (first | omega | (simp <;> omega))) | with_reducible apply Blk.allocp | with_reducible apply Blk.drew | with_reducible apply Blk.drewN))) hB3; have cX3 := hX3.cell; have fX3 := hX3.frozen; have lX3 := hX3.lt; have mX3 := Nat.ne_of_gt lX3; have nX3 := Nat.ne_of_lt lX3))
    go_ret3
    exact ⟨false, (0, 0), by simp, HN.out, fun _ => rfl, by decide, (by repeat (first | with_reducible exact Below.refl _ _ | with_reducible assumption | with_reducible apply Below.drew | with_reducible apply below_drewN | (with_reducible apply below_setp; (first | omega | (simp <;> omega))) | (with_reducible apply below_allocp; (first | omega | (simp <;> omega))) | (with_reducible refine below_viap (by assumption) ?_ ?_; (first | omega | (simp <;> omega)))))⟩
  · have HN := Lib.hid (hno (fun h => by injection h with h1 h2 h3; simp_all))
    clear hno hyes hone
    go_enter Tryz.func17, Tryz.ntmps17
    go_wp2_with (first | (go_at_call 22; (with_reducible refine (hW.out _).mono ?_); rintro e v1 ⟨rfl, hB1⟩; have hZ1 := hB1.size; (try simp at hZ1); (try have zl1 : w.heap.size < v1.heap.size := by omega); (try have ze1 : w.heap.size ≤ v1.heap.size := by omega); (try have zn1 : ¬ w.heap.size = v1.heap.size := by omega); (try have zm1 : ¬ v1.heap.size = w.heap.size := by omega); have hX1 : Blk v1 (w.heap.size) 25 #[.int .i64 e, .int .i64 a, .int .i64 b] := Blk.call (by (repeat (first | with_reducible assumption | (with_reducible apply Blk.new_at; (first | rfl | (simp; done))) | with_reducible apply Blk.store3 | with_reducible apply Blk.store4 | (with_reducible apply Blk.farp; (first | omega | (simp <;> omega))) | with_reducible apply Blk.allocp | with_reducible apply Blk.drew | with_reducible apply Blk.drewN))) hB1; have cX1 := hX1.cell; have fX1 := hX1.frozen; have lX1 := hX1.lt; have mX1 := Nat.ne_of_gt lX1; have nX1 := Nat.ne_of_lt lX1) | (go_at_call 29; (with_reducible refine (hPc.out _).mono ?_); rintro e v2 ⟨rfl, hB2⟩; have hZ2 := hB2.size; (try simp at hZ2); (try have zl2 : w.heap.size < v2.heap.size := by omega); (try have ze2 : w.heap.size ≤ v2.heap.size := by omega); (try have zn2 : ¬ w.heap.size = v2.heap.size := by omega); (try have zm2 : ¬ v2.heap.size = w.heap.size := by omega); have hX2 : Blk v2 (w.heap.size) 25 #[.int .i64 e, .int .i64 a, .int .i64 b] := Blk.call (by (repeat (first | with_reducible assumption | (with_reducible apply Blk.new_at; (first | rfl | (simp; done))) | with_reducible apply Blk.store3 | with_reducible apply Blk.store4 | (with_reducible apply Blk.farp; (first | omega | (simp <;> omega))) | with_reducible apply Blk.allocp | with_reducible apply Blk.drew | with_reducible apply Blk.drewN))) hB2; have cX2 := hX2.cell; have fX2 := hX2.frozen; have lX2 := hX2.lt; have mX2 := Nat.ne_of_gt lX2; have nX2 := Nat.ne_of_lt lX2) | (go_at_call 49; (with_reducible refine (hOn.out _).mono ?_); rintro e v3 ⟨rfl, hB3⟩; have hZ3 := hB3.size; (try simp at hZ3); (try have zl3 : w.heap.size < v3.heap.size := by omega); (try have ze3 : w.heap.size ≤ v3.heap.size := by omega); (try have zn3 : ¬ w.heap.size = v3.heap.size := by omega); (try have zm3 : ¬ v3.heap.size = w.heap.size := by omega); have hX3 : Blk v3 (w.heap.size) 25 #[.int .i64 e, .int .i64 a, .int .i64 b] := Blk.call (by (repeat (first | with_reducible assumption | (with_reducible apply Blk.new_at; (first | rfl | (simp; done))) | with_reducible apply Blk.store3 | with_reducible apply Blk.store4 | (with_reducible apply Blk.farp; (first | omega | (simp <;> omega))) | with_reducible apply Blk.allocp | with_reducible apply Blk.drew | with_reducible apply Blk.drewN))) hB3; have cX3 := hX3.cell; have fX3 := hX3.frozen; have lX3 := hX3.lt; have mX3 := Nat.ne_of_gt lX3; have nX3 := Nat.ne_of_lt lX3))
    go_ret3
    exact ⟨false, (0, 0), by simp, HN.out, fun _ => rfl, by decide, (by repeat (first | with_reducible exact Below.refl _ _ | with_reducible assumption | with_reducible apply Below.drew | with_reducible apply below_drewN | (with_reducible apply below_setp; (first | omega | (simp <;> omega))) | (with_reducible apply below_allocp; (first | omega | (simp <;> omega))) | (with_reducible refine below_viap (by assumption) ?_ ?_; (first | omega | (simp <;> omega)))))⟩
  · have HN := Lib.hid (hno (fun h => by injection h with h1 h2 h3; simp_all))
    clear hno hyes hone
    go_enter Tryz.func17, Tryz.ntmps17
    go_wp2_with (first | (go_at_call 22; (with_reducible refine (hW.out _).mono ?_); rintro e v1 ⟨rfl, hB1⟩; have hZ1 := hB1.size; (try simp at hZ1); (try have zl1 : w.heap.size < v1.heap.size := by omega); (try have ze1 : w.heap.size ≤ v1.heap.size := by omega); (try have zn1 : ¬ w.heap.size = v1.heap.size := by omega); (try have zm1 : ¬ v1.heap.size = w.heap.size := by omega); have hX1 : Blk v1 (w.heap.size) 25 #[.int .i64 e, .int .i64 a, .int .i64 b] := Blk.call (by (repeat (first | with_reducible assumption | (with_reducible apply Blk.new_at; (first | rfl | (simp; done))) | with_reducible apply Blk.store3 | with_reducible apply Blk.store4 | (with_reducible apply Blk.farp; (first | omega | (simp <;> omega))) | with_reducible apply Blk.allocp | with_reducible apply Blk.drew | with_reducible apply Blk.drewN))) hB1; have cX1 := hX1.cell; have fX1 := hX1.frozen; have lX1 := hX1.lt; have mX1 := Nat.ne_of_gt lX1; have nX1 := Nat.ne_of_lt lX1) | (go_at_call 29; (with_reducible refine (hPc.out _).mono ?_); rintro e v2 ⟨rfl, hB2⟩; have hZ2 := hB2.size; (try simp at hZ2); (try have zl2 : w.heap.size < v2.heap.size := by omega); (try have ze2 : w.heap.size ≤ v2.heap.size := by omega); (try have zn2 : ¬ w.heap.size = v2.heap.size := by omega); (try have zm2 : ¬ v2.heap.size = w.heap.size := by omega); have hX2 : Blk v2 (w.heap.size) 25 #[.int .i64 e, .int .i64 a, .int .i64 b] := Blk.call (by (repeat (first | with_reducible assumption | (with_reducible apply Blk.new_at; (first | rfl | (simp; done))) | with_reducible apply Blk.store3 | with_reducible apply Blk.store4 | (with_reducible apply Blk.farp; (first | omega | (simp <;> omega))) | with_reducible apply Blk.allocp | with_reducible apply Blk.drew | with_reducible apply Blk.drewN))) hB2; have cX2 := hX2.cell; have fX2 := hX2.frozen; have lX2 := hX2.lt; have mX2 := Nat.ne_of_gt lX2; have nX2 := Nat.ne_of_lt lX2) | (go_at_call 49; (with_reducible refine (hOn.out _).mono ?_); rintro e v3 ⟨rfl, hB3⟩; have hZ3 := hB3.size; (try simp at hZ3); (try have zl3 : w.heap.size < v3.heap.size := by omega); (try have ze3 : w.heap.size ≤ v3.heap.size := by omega); (try have zn3 : ¬ w.heap.size = v3.heap.size := by omega); (try have zm3 : ¬ v3.heap.size = w.heap.size := by omega); have hX3 : Blk v3 (w.heap.size) 25 #[.int .i64 e, .int .i64 a, .int .i64 b] := Blk.call (by (repeat (first | with_reducible assumption | (with_reducible apply Blk.new_at; (first | rfl | (simp; done))) | with_reducible apply Blk.store3 | with_reducible apply Blk.store4 | (with_reducible apply Blk.farp; (first | omega | (simp <;> omega))) | with_reducible apply Blk.allocp | with_reducible apply Blk.drew | with_reducible apply Blk.drewN))) hB3; have cX3 := hX3.cell; have fX3 := hX3.frozen; have lX3 := hX3.lt; have mX3 := Nat.ne_of_gt lX3; have nX3 := Nat.ne_of_lt lX3))
    go_ret3
    exact ⟨false, (0, 0), by simp, HN.out, fun _ => rfl, by decide, (by repeat (first | with_reducible exact Below.refl _ _ | with_reducible assumption | with_reducible apply Below.drew | with_reducible apply below_drewN | (with_reducible apply below_setp; (first | omega | (simp <;> omega))) | (with_reducible apply below_allocp; (first | omega | (simp <;> omega))) | (with_reducible refine below_viap (by assumption) ?_ ?_; (first | omega | (simp <;> omega)))))⟩
  · have HY := Lib.hid (hyes rfl)
    clear hno hyes hone
    go_enter Tryz.func17, Tryz.ntmps17
    go_wp2_with (first | (go_at_call 22; (with_reducible refine (hW.out _).mono ?_); rintro e v1 ⟨rfl, hB1⟩; have hZ1 := hB1.size; (try simp at hZ1); (try have zl1 : w.heap.size < v1.heap.size := by omega); (try have ze1 : w.heap.size ≤ v1.heap.size := by omega); (try have zn1 : ¬ w.heap.size = v1.heap.size := by omega); (try have zm1 : ¬ v1.heap.size = w.heap.size := by omega); have hX1 : Blk v1 (w.heap.size) 25 #[.int .i64 e, .int .i64 a, .int .i64 b] := Blk.call (by (repeat (first | with_reducible assumption | (with_reducible apply Blk.new_at; (first | rfl | (simp; done))) | with_reducible apply Blk.store3 | with_reducible apply Blk.store4 | (with_reducible apply Blk.farp; (first | omega | (simp <;> omega))) | with_reducible apply Blk.allocp | with_reducible apply Blk.drew | with_reducible apply Blk.drewN))) hB1; have cX1 := hX1.cell; have fX1 := hX1.frozen; have lX1 := hX1.lt; have mX1 := Nat.ne_of_gt lX1; have nX1 := Nat.ne_of_lt lX1) | (go_at_call 29; (with_reducible refine (hPc.out _).mono ?_); rintro e v2 ⟨rfl, hB2⟩; have hZ2 := hB2.size; (try simp at hZ2); (try have zl2 : w.heap.size < v2.heap.size := by omega); (try have ze2 : w.heap.size ≤ v2.heap.size := by omega); (try have zn2 : ¬ w.heap.size = v2.heap.size := by omega); (try have zm2 : ¬ v2.heap.size = w.heap.size := by omega); have hX2 : Blk v2 (w.heap.size) 25 #[.int .i64 e, .int .i64 a, .int .i64 b] := Blk.call (by (repeat (first | with_reducible assumption | (with_reducible apply Blk.new_at; (first | rfl | (simp; done))) | with_reducible apply Blk.store3 | with_reducible apply Blk.store4 | (with_reducible apply Blk.farp; (first | omega | (simp <;> omega))) | with_reducible apply Blk.allocp | with_reducible apply Blk.drew | with_reducible apply Blk.drewN))) hB2; have cX2 := hX2.cell; have fX2 := hX2.frozen; have lX2 := hX2.lt; have mX2 := Nat.ne_of_gt lX2; have nX2 := Nat.ne_of_lt lX2) | (go_at_call 49; (with_reducible refine (hOn.out _).mono ?_); rintro e v3 ⟨rfl, hB3⟩; have hZ3 := hB3.size; (try simp at hZ3); (try have zl3 : w.heap.size < v3.heap.size := by omega); (try have ze3 : w.heap.size ≤ v3.heap.size := by omega); (try have zn3 : ¬ w.heap.size = v3.heap.size := by omega); (try have zm3 : ¬ v3.heap.size = w.heap.size := by omega); have hX3 : Blk v3 (w.heap.size) 25 #[.int .i64 e, .int .i64 a, .int .i64 b] := Blk.call (by (repeat (first | with_reducible assumption | (with_reducible apply Blk.new_at; (first | rfl | (simp; done))) | with_reducible apply Blk.store3 | with_reducible apply Blk.store4 | (with_reducible apply Blk.farp; (first | omega | (simp <;> omega))) | with_reducible apply Blk.allocp | with_reducible apply Blk.drew | with_reducible apply Blk.drewN))) hB3; have cX3 := hX3.cell; have fX3 := hX3.frozen; have lX3 := hX3.lt; have mX3 := Nat.ne_of_gt lX3; have nX3 := Nat.ne_of_lt lX3) | (go_at_call 52; (with_reducible refine (hIf.out _).mono ?_); rintro e v4 ⟨rfl, hB4⟩; have hZ4 := hB4.size; (try simp at hZ4); (try have zl4 : w.heap.size < v4.heap.size := by omega); (try have ze4 : w.heap.size ≤ v4.heap.size := by omega); (try have zn4 : ¬ w.heap.size = v4.heap.size := by omega); (try have zm4 : ¬ v4.heap.size = w.heap.size := by omega); have hX4 : Blk v4 (w.heap.size) 25 #[.int .i64 e, .int .i64 a, .int .i64 b] := Blk.call (by (repeat (first | with_reducible assumption | (with_reducible apply Blk.new_at; (first | rfl | (simp; done))) | with_reducible apply Blk.store3 | with_reducible apply Blk.store4 | (with_reducible apply Blk.farp; (first | omega | (simp <;> omega))) | with_reducible apply Blk.allocp | with_reducible apply Blk.drew | with_reducible apply Blk.drewN))) hB4; have cX4 := hX4.cell; have fX4 := hX4.frozen; have lX4 := hX4.lt; have mX4 := Nat.ne_of_gt lX4; have nX4 := Nat.ne_of_lt lX4; have hB4 : Blk v4 (v3.heap.size) 76 #[.int .i64 0, .int .i64 0] := Blk.call (by (repeat (first | with_reducible assumption | (with_reducible apply Blk.new_at; (first | rfl | (simp; done))) | with_reducible apply Blk.store3 | with_reducible apply Blk.store4 | (with_reducible apply Blk.farp; (first | omega | (simp <;> omega))) | with_reducible apply Blk.allocp | with_reducible apply Blk.drew | with_reducible apply Blk.drewN))) hB4; have cB4 := hB4.cell; have fB4 := hB4.frozen; have lB4 := hB4.lt; have mB4 := Nat.ne_of_gt lB4; have nB4 := Nat.ne_of_lt lB4) | (go_at_call 51; (with_reducible refine (hOp.out _).mono ?_); rintro e v5 ⟨rfl, hB5⟩; have hZ5 := hB5.size; (try simp at hZ5); (try have zl5 : w.heap.size < v5.heap.size := by omega); (try have ze5 : w.heap.size ≤ v5.heap.size := by omega); (try have zn5 : ¬ w.heap.size = v5.heap.size := by omega); (try have zm5 : ¬ v5.heap.size = w.heap.size := by omega); have hX5 : Blk v5 (w.heap.size) 25 #[.int .i64 e, .int .i64 a, .int .i64 b] := Blk.call (by (repeat (first | with_reducible assumption | (with_reducible apply Blk.new_at; (first | rfl | (simp; done))) | with_reducible apply Blk.store3 | with_reducible apply Blk.store4 | (with_reducible apply Blk.farp; (first | omega | (simp <;> omega))) | with_reducible apply Blk.allocp | with_reducible apply Blk.drew | with_reducible apply Blk.drewN))) hB5; have cX5 := hX5.cell; have fX5 := hX5.frozen; have lX5 := hX5.lt; have mX5 := Nat.ne_of_gt lX5; have nX5 := Nat.ne_of_lt lX5; have hB5 : Blk v5 (v3.heap.size) 76 #[.int .i64 0, .int .i64 0] := Blk.call (by (repeat (first | with_reducible assumption | (with_reducible apply Blk.new_at; (first | rfl | (simp; done))) | with_reducible apply Blk.store3 | with_reducible apply Blk.store4 | (with_reducible apply Blk.farp; (first | omega | (simp <;> omega))) | with_reducible apply Blk.allocp | with_reducible apply Blk.drew | with_reducible apply Blk.drewN))) hB5; have cB5 := hB5.cell; have fB5 := hB5.frozen; have lB5 := hB5.lt; have mB5 := Nat.ne_of_gt lB5; have nB5 := Nat.ne_of_lt lB5) | (go_at_call 50; refine (hVa.out _).mono ?_; rintro ee v6 ⟨L, hLn, hLm, vl, rfl, hol, hB6⟩; have hZ6 := hB6.size; (try simp at hZ6); obtain ⟨bl, cl, rfl⟩ := own_shape hol; have hX6 : Blk v6 w.heap.size 25 #[.int .i64 e, .int .i64 a, .int .i64 b] := Blk.call (by (repeat (first | with_reducible assumption | (with_reducible apply Blk.new_at; (first | rfl | (simp; done))) | with_reducible apply Blk.store3 | with_reducible apply Blk.store4 | (with_reducible apply Blk.farp; (first | omega | (simp <;> omega))) | with_reducible apply Blk.allocp | with_reducible apply Blk.drew | with_reducible apply Blk.drewN))) hB6; have hB6b : Blk v6 v3.heap.size 76 #[.int .i64 0, .int .i64 0] := Blk.call (by (repeat (first | with_reducible assumption | (with_reducible apply Blk.new_at; (first | rfl | (simp; done))) | with_reducible apply Blk.store3 | with_reducible apply Blk.store4 | (with_reducible apply Blk.farp; (first | omega | (simp <;> omega))) | with_reducible apply Blk.allocp | with_reducible apply Blk.drew | with_reducible apply Blk.drewN))) hB6))
    have hb6 : Below w.heap.size w v6 := (by repeat (first | with_reducible exact Below.refl _ _ | with_reducible assumption | with_reducible apply Below.drew | with_reducible apply below_drewN | (with_reducible apply below_setp; (first | omega | (simp <;> omega))) | (with_reducible apply below_allocp; (first | omega | (simp <;> omega))) | (with_reducible refine below_viap (by assumption) ?_ ?_; (first | omega | (simp <;> omega)))))
    have HO := Lib.hid hol
    have HLm := Lib.hid hLm
    have HLb := Lib.hid (hfew.out L hLn (fun p hp => (hLm p).1 hp))
    have hol6 : v6.ownsRow v5.heap.size 80 2 (.slice bl L.length cl) L.length (cellsP L) := hol
    have v35 : v3.heap.size < v5.heap.size := by omega
    have hB0 : Blk v6 v3.heap.size 76 #[.int .i64 (e * 0), .int .i64 (e * 0)] := by rw [Int.mul_zero]; exact hB6b
    clear hol hLn hLm hB6 hW hPc hOn hIf hOp hVa hfew HO hB6b
    go_loopw [7, 31] (fun vf vi wr => ∃ k : Nat, vi = .int .i64 k ∧ k ≤ L.length ∧ wr.ownsRow v5.heap.size 80 2 (.slice bl L.length cl) L.length (cellsP L) ∧ GoS2 (PKg L a b k) e v3.heap.size v6 vf wr) (fun _ vi _ => L.length - (intOf vi).toNat)
    case atStart => exact ⟨0, rfl, Nat.zero_le _, hol6, false, (0, 0), rfl, Lib.hid ⟨fun _ p h => by obtain ⟨q, hq, _⟩ := h; simp at hq, fun h => by cases h⟩, Lib.hid (fun _ => rfl), Lib.hid (by decide), hB0, Below.refl _ _⟩
    case round =>
      clear hol6 hB0
      obtain ⟨k, rfl, hk, hown, f, q, rfl, hI, hQz, hQb, hBr, hbel⟩ := hrel
      have hz := hbel.size
      have hXr := hX6.below hbel (by omega)
      have cX := hXr.cell; have fX := hXr.frozen; have lX := hXr.lt; have cB := hBr.cell; have fB := hBr.frozen; have lB := hBr.lt
      by_cases hlt : k < L.length
      · obtain ⟨g, rfl, lg, c1, c2⟩ := own_elemP hown hlt
        have hgv : v5.heap.size ≤ g := own_ge hown g rfl
        have hmem := (HLm.out L[k]).1 (List.getElem_mem hlt)
        have hGz : G (elP a b L[k]) := (hGi.out _).2 ⟨_, hmem, rfl⟩
        have hsz := hsm.out _ hGz
        have HPn := Lib.hid (fun z => pk_next (a := a) (b := b) hlt z)
        have hkb : k ≤ 100000 := by have := HLb.out; omega
        clear hmem hGz
        generalize L[k] = p at *
        obtain ⟨x, y⟩ := p
        unfold elP at hsz
        dsimp only at c1 c2 hsz
        have hab := HAB.out
        have m1 := mul_bd (a := b) (x := y) (A := 20000) (X := 1000) (by omega) (by omega) (by omega) (by omega)
        obtain ⟨u, hu⟩ : ∃ u, 2 * a * x - b * y = u := ⟨_, rfl⟩
        rw [hu] at hsz
        have m2 := mul_bd (a := e) (x := u) (A := 10000) (X := 1000) (by omega) (by omega) (by omega) (by omega)
        have m3 := mul_bd (a := e) (x := y) (A := 10000) (X := 1000) (by omega) (by omega) (by omega) (by omega)
        have K1 := Lib.hid (show wrap64 (2 * a) = 2 * a from IntWalk.wrap64_in _ (by omega))
        have K2 := Lib.hid (show wrap64 (2 * a * x) = 2 * a * x from IntWalk.wrap64_in _ (by omega))
        have K3 := Lib.hid (show wrap64 (b * y) = b * y from IntWalk.wrap64_in _ (by omega))
        have K4 := Lib.hid (show wrap64 (2 * a * x - b * y) = u by rw [hu]; exact IntWalk.wrap64_in _ (by omega))
        have K5 := Lib.hid (show wrap64 (e * u) = e * u from IntWalk.wrap64_in _ (by omega))
        have K6 := Lib.hid (show wrap64 (e * y) = e * y from IntWalk.wrap64_in _ (by omega))
        have HU := Lib.hid (show elP a b (x, y) = (u, y) from Prod.ext hu rfl)
        rw [HU.out] at HPn
        have HSz := Lib.hid hsz
        have he1 : 1 ≤ e := hab.2.2.1
        clear hsz m1 m2 m3 hab hu hXr
        have ng : ¬ g = wr.heap.size := by omega
        have ng1 : ¬ g = wr.heap.size + 1 := by omega
        have nx : ¬ wr.heap.size = w.heap.size := by omega
        have nx1 : ¬ wr.heap.size + 1 = w.heap.size := by omega
        have nb : ¬ wr.heap.size = v3.heap.size := by omega
        have nb1 : ¬ wr.heap.size + 1 = v3.heap.size := by omega
        have nbg : v3.heap.size ≠ g := by omega
        obtain ⟨q1, q2⟩ := q
        dsimp only at cB hBr hQb
        have k1 := K1.out; have k2 := K2.out; have k3 := K3.out; have k4 := K4.out; have k5 := K5.out; have k6 := K6.out
        go_upto_region 8 with (fail)
        clear k1 k2 k3 k4 k5 k6
        have hB8 : Blk ((wr.alloc (.cells #[.int .i64 x, .int .i64 y] 80)).alloc (.cells #[.int .i64 (e * u), .int .i64 (e * y)] 76)) v3.heap.size 76 #[.int .i64 (e * q1), .int .i64 (e * q2)] := (hBr.alloc _).alloc _
        have hE8 : Blk ((wr.alloc (.cells #[.int .i64 x, .int .i64 y] 80)).alloc (.cells #[.int .i64 (e * u), .int .i64 (e * y)] 76)) (wr.heap.size + 1) 76 #[.int .i64 (e * u), .int .i64 (e * y)] := Blk.new_at (by simp)
        have bel8 : Below v3.heap.size v6 ((wr.alloc (.cells #[.int .i64 x, .int .i64 y] 80)).alloc (.cells #[.int .i64 (e * u), .int .i64 (e * y)] 76)) := (by repeat (first | with_reducible exact Below.refl _ _ | with_reducible assumption | with_reducible apply Below.drew | with_reducible apply below_drewN | (with_reducible apply below_setp; (first | omega | (simp <;> omega))) | (with_reducible apply below_allocp; (first | omega | (simp <;> omega))) | (with_reducible refine below_viap (by assumption) ?_ ?_; (first | omega | (simp <;> omega)))))
        have ho8 := own_alloc (o := .cells #[.int .i64 (e * u), .int .i64 (e * y)] 76) (own_alloc (o := .cells #[.int .i64 x, .int .i64 y] 80) hown)
        have hz8 : wr.heap.size + 1 < ((wr.alloc (.cells #[.int .i64 x, .int .i64 y] 80)).alloc (.cells #[.int .i64 (e * u), .int .i64 (e * y)] 76)).heap.size := by simp
        clear cX fX lX cB fB lB c1 c2 hbel hBr hown hX6
        generalize ((wr.alloc (.cells #[.int .i64 x, .int .i64 y] 80)).alloc (.cells #[.int .i64 (e * u), .int .i64 (e * y)] 76)) = W8 at *
        have cB := hB8.cell; have fB := hB8.frozen; have lB := hB8.lt; have cE := hE8.cell; have fE := hE8.frozen; have lE := hE8.lt
        have hne2 : v3.heap.size ≠ wr.heap.size + 1 := by omega
        have hgN : ∀ k', (Value.slice (some ⟨g, 0, none⟩) L.length cl).ownBlock = some k' → k' ≠ v3.heap.size := fun k' h => by have h2 : some g = some k' := h; injection h2 with h2; omega
        cases f with
        | false =>
          have hI3 := Lib.hid (bestI_new (P' := PKg L a b (k + 1)) hI.out HPn.out (.inl rfl))
          clear hI HPn
          go_wp2
          go_roundw
          case rel => exact ⟨k + 1, by go_num, hlt, own_set_ne (own_set_ne ho8 hgN _) hgN _, true, (u, y), rfl, hI3, Lib.hid (fun h => by cases h), HSz, by (repeat (first | with_reducible assumption | (with_reducible apply Blk.new_at; (first | rfl | (simp; done))) | with_reducible apply Blk.store2 | with_reducible apply Blk.store3 | with_reducible apply Blk.store4 | (with_reducible apply Blk.farp; (first | omega | (simp <;> omega))) | with_reducible apply Blk.allocp | with_reducible apply Blk.drew | with_reducible apply Blk.drewN)), (by repeat (first | with_reducible exact Below.refl _ _ | with_reducible assumption | with_reducible apply Below.drew | with_reducible apply below_drewN | (with_reducible apply below_setp; (first | omega | (simp <;> omega))) | (with_reducible apply below_allocp; (first | omega | (simp <;> omega))) | (with_reducible refine below_viap (by assumption) ?_ ?_; (first | omega | (simp <;> omega)))))⟩
          case measure => (first | (simp [intOf]; done) | (simp [intOf]; omega))
        | true =>
          by_cases g1 : q1 < u
          · have s1 : e * q1 < e * u := Int.mul_lt_mul_of_pos_left g1 (by omega)
            have hlex := Lib.hid (show LexG (q1, q2) (u, y) from .inl g1)
            clear g1
            have hI3 := Lib.hid (bestI_new (P' := PKg L a b (k + 1)) hI.out HPn.out (.inr hlex.out))
            clear hI HPn
            go_wp2
            go_roundw
            case rel => exact ⟨k + 1, by go_num, hlt, own_set_ne (own_set_ne ho8 hgN _) hgN _, true, (u, y), rfl, hI3, Lib.hid (fun h => by cases h), HSz, by (repeat (first | with_reducible assumption | (with_reducible apply Blk.new_at; (first | rfl | (simp; done))) | with_reducible apply Blk.store2 | with_reducible apply Blk.store3 | with_reducible apply Blk.store4 | (with_reducible apply Blk.farp; (first | omega | (simp <;> omega))) | with_reducible apply Blk.allocp | with_reducible apply Blk.drew | with_reducible apply Blk.drewN)), (by repeat (first | with_reducible exact Below.refl _ _ | with_reducible assumption | with_reducible apply Below.drew | with_reducible apply below_drewN | (with_reducible apply below_setp; (first | omega | (simp <;> omega))) | (with_reducible apply below_allocp; (first | omega | (simp <;> omega))) | (with_reducible refine below_viap (by assumption) ?_ ?_; (first | omega | (simp <;> omega)))))⟩
            case measure => (first | (simp [intOf]; done) | (simp [intOf]; omega))
          · have s1 : ¬ e * q1 < e * u := Int.not_lt.2 (Int.mul_le_mul_of_nonneg_left (by omega) (by omega))
            by_cases g2 : q1 = u
            · have s2 : (e * u == e * q1) = true := by rw [beq_iff_eq, g2]
              by_cases g4 : q2 < y
              · have s3 : e * q2 < e * y := Int.mul_lt_mul_of_pos_left g4 (by omega)
                have hlex := Lib.hid (show LexG (q1, q2) (u, y) from .inr ⟨g2, g4⟩)
                clear g2 g4 g1
                have hI3 := Lib.hid (bestI_new (P' := PKg L a b (k + 1)) hI.out HPn.out (.inr hlex.out))
                clear hI HPn
                go_wp2
                go_roundw
                case rel => exact ⟨k + 1, by go_num, hlt, own_set_ne (own_set_ne ho8 hgN _) hgN _, true, (u, y), rfl, hI3, Lib.hid (fun h => by cases h), HSz, by (repeat (first | with_reducible assumption | (with_reducible apply Blk.new_at; (first | rfl | (simp; done))) | with_reducible apply Blk.store2 | with_reducible apply Blk.store3 | with_reducible apply Blk.store4 | (with_reducible apply Blk.farp; (first | omega | (simp <;> omega))) | with_reducible apply Blk.allocp | with_reducible apply Blk.drew | with_reducible apply Blk.drewN)), (by repeat (first | with_reducible exact Below.refl _ _ | with_reducible assumption | with_reducible apply Below.drew | with_reducible apply below_drewN | (with_reducible apply below_setp; (first | omega | (simp <;> omega))) | (with_reducible apply below_allocp; (first | omega | (simp <;> omega))) | (with_reducible refine below_viap (by assumption) ?_ ?_; (first | omega | (simp <;> omega)))))⟩
                case measure => (first | (simp [intOf]; done) | (simp [intOf]; omega))
              · have s3 : ¬ e * q2 < e * y := Int.not_lt.2 (Int.mul_le_mul_of_nonneg_left (by omega) (by omega))
                have hI3 := Lib.hid (bestI_old (P' := PKg L a b (k + 1)) hI.out HPn.out (fun h => by unfold LexG at h; simp only at h; omega))
                clear hI HPn g2 g4 g1
                go_wp2
                go_roundw
                case rel => exact ⟨k + 1, by go_num, hlt, ho8, true, (q1, q2), rfl, hI3, hQz, hQb, hB8, bel8⟩
                case measure => (first | (simp [intOf]; done) | (simp [intOf]; omega))
            · have s2 : (e * u == e * q1) = false := beq_eq_false_iff_ne.2 (fun h => g2 (Int.eq_of_mul_eq_mul_left (by omega) h).symm)
              have hI3 := Lib.hid (bestI_old (P' := PKg L a b (k + 1)) hI.out HPn.out (fun h => by unfold LexG at h; simp only at h; omega))
              clear hI HPn g2 g1
              go_wp2
              go_roundw
              case rel => exact ⟨k + 1, by go_num, hlt, ho8, true, (q1, q2), rfl, hI3, hQz, hQb, hB8, bel8⟩
              case measure => (first | (simp [intOf]; done) | (simp [intOf]; omega))
      · obtain rfl : k = L.length := by omega
        obtain ⟨q1, q2⟩ := q
        have hIG := bestI_same (P' := G) hI.out (fun z => ⟨fun h => by obtain ⟨p, hp, hz⟩ := (hGi.out z).1 h; exact ⟨p, by rw [List.take_length]; exact (HLm.out p).2 hp, hz⟩, fun h => by obtain ⟨p, hp, hz⟩ := h; rw [List.take_length] at hp; exact (hGi.out z).2 ⟨p, (HLm.out p).1 hp, hz⟩⟩)
        have hft : f = true := by
          cases f with
          | true => rfl
          | false => obtain ⟨p, hp⟩ := HY.out; exact absurd ((hGi.out _).2 ⟨p, hp, rfl⟩) (hIG.1 rfl _)
        subst hft
        have hIG2 := Lib.hid hIG
        have hb9 : Below w.heap.size w wr := below_via hb6 hbel (by omega)
        dsimp only at cB
        clear hI hIG hXr hown hX6
        go_wp2
        refine wp_region_calm 7 (Below (wr.heap.size) _) (by kernel_rfl) (by kernel_rfl) ((Below.refl _ _).drew) ?_
        simp only [List.take_succ_cons, List.take_zero, List.drop_succ_cons, List.drop_zero]
        repeat (first | (apply wpCalm_go; go_simp; (intro w' hw' hcc hff; go_simp; first | exact rfl | fail); (intro K hK; go_simp; refine hK _ ?_; clear hK K)) | (apply wpCalm_skip; go_simp; (try (focus (simp [undef]; done))); (intro K hK; go_simp; refine hK _ ?_; clear hK K)))
        refine wpCalm_nil ?_
        intro w1 hw1
        have hcc := (calm_cells hw1).1
        have hff := (calm_cells hw1).2
        have hss := calm_size hw1
        have hsz := hw1.size
        (try simp at hsz)
        clear hcc hff hss
        go_wp2
        go_ret3
        exact ⟨true, (q1, q2), rfl, hIG2.out, hQz.out, hQb.out, below_via hb9 hw1 (by omega)⟩
end
end Go.Proofs.YtohgccgbbipjjaaGreat
