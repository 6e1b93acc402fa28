/- Contract: the ideal that elements generate, of the reference. -/
import Derived.Test.YtjjkndgokdofdaaRQ
import Derived.Test.YtjjkndgokdofdaaRH
import Derived.Test.YtjjkndgokdofdaaEP
import Derived.Deep.DeepCutAuto
namespace Go.Proofs.Ytjjkndgokdofdaa
open Go.RowKit

def cellI (w : World) (g i : Nat) : Int := intOf ((w.cell? ⟨g, i, none⟩).getD (.int .i64 0))
/-- The state of the outer loop. -/
def SnSt (L : List (Int × Int)) (w : World) (v4 v13 : Value) (wr : World) : Prop :=
  ∃ (k : Nat) (n u v : Int), v13 = .int .i64 k ∧ v4 = .int .i64 n ∧ k ≤ 4 ∧ Blk wr (w.heap.size + 1) 118 #[.int .i64 u, .int .i64 v] ∧ Blk wr w.heap.size 25 #[.int .i64 0, .int .i64 0, .int .i64 0] ∧
    u.natAbs ≤ spT k ∧ v.natAbs ≤ spV k ∧ (0 ≤ n ∧ n ≤ 400000000) ∧ Hid ((k = 0 → n = 0) ∧ (1 ≤ k → 0 < n ∧ SpEq [(n, 0), (u, v)] (L.take k))) ∧ Below w.heap.size w wr
/-- The state of the inner loop. -/
def SnIn (n : Int) (M : Nat) (S : List (Int × Int)) (w : World) (gx : Nat) (wr : World) : Prop :=
  ∃ u v x y : Int, Blk wr (w.heap.size + 1) 118 #[.int .i64 u, .int .i64 v] ∧ Blk wr gx 118 #[.int .i64 x, .int .i64 y] ∧ Blk wr w.heap.size 25 #[.int .i64 0, .int .i64 0, .int .i64 0] ∧
    u.natAbs ≤ M ∧ x.natAbs ≤ M ∧ v.natAbs ≤ 20000 ∧ y.natAbs ≤ 20000 ∧ Hid (x.natAbs * v.natAbs + u.natAbs * y.natAbs ≤ M) ∧ Hid (SpEq [(n, 0), (u, v), (x, y)] S) ∧ Below w.heap.size w wr
theorem cellI_of {w : World} {g : Nat} {t : TypeId} {x y : Int} (h : Blk w g t #[.int .i64 x, .int .i64 y]) : cellI w g 1 = y := by
  unfold cellI
  rw [h.cell]; rfl
theorem SnIn.pack {n : Int} {M : Nat} {S : List (Int × Int)} {w wr : World} {gx m : Nat} (h : ∃ u v x y : Int, Blk wr (w.heap.size + 1) 118 #[.int .i64 u, .int .i64 v] ∧ Blk wr gx 118 #[.int .i64 x, .int .i64 y] ∧ Blk wr w.heap.size 25 #[.int .i64 0, .int .i64 0, .int .i64 0] ∧
    u.natAbs ≤ M ∧ x.natAbs ≤ M ∧ v.natAbs ≤ 20000 ∧ y.natAbs ≤ 20000 ∧ Hid (u.natAbs * y.natAbs + x.natAbs * v.natAbs ≤ M) ∧ Hid (SpEq [(n, 0), (u, v), (x, y)] S) ∧ Below w.heap.size w wr ∧ y.natAbs < m) : SnIn n M S w gx wr ∧ (cellI wr gx 1).natAbs < m := by
  obtain ⟨u, v, x, y, h1, h2, h3, h4, h5, h6, h7, h8, h9, h10, h11⟩ := h
  refine ⟨⟨u, v, x, y, h1, h2, h3, h4, h5, h6, h7, Lib.hid (by have := h8.out; omega), h9, h10⟩, ?_⟩
  rw [cellI_of h2]; exact h11
set_option maxRecDepth 100000 in
set_option maxHeartbeats 12800000 in
theorem idSpan_any (x0 : Int) (L' : List (Int × Int)) (A e t : Int) (v : Value) (B : Nat) (w : World) (hx0 : 0 < x0 ∧ x0 ≤ 200000000)
    (hb : ∀ p ∈ L', p.1.natAbs ≤ 200000000 ∧ p.2.natAbs ≤ 20000) (hlen : L'.length = 3) (hsp : SpEq [(2 * e * A, 0), (e * t, e)] ((x0, 0) :: L')) (hA : 0 < A) (he : 0 < e)
    (ho : w.ownsRow B 118 2 v ((x0, 0) :: L').length (cellsP ((x0, 0) :: L'))) :
    Calls Try.prog 90 #[v] w fun e1 w' => e1 = .returned (.agg #[.int .i64 e, .int .i64 A, .int .i64 ((-t) % (2 * A))]) ∧ Below w.heap.size w w' := by
  obtain ⟨bl, cl, rfl⟩ := own_shape ho
  have HO := Lib.hid ho
  have HB : Hid (∀ k (h : k < ((x0, 0) :: L').length), 1 ≤ k → (((x0, 0) :: L')[k]).1.natAbs ≤ 200000000 ∧ (((x0, 0) :: L')[k]).2.natAbs ≤ 20000) := Lib.hid (fun k h h1 => by
    obtain ⟨j, rfl⟩ : ∃ j, k = j + 1 := ⟨k - 1, by omega⟩
    exact hb _ (by rw [List.getElem_cons_succ]; exact List.getElem_mem _))
  have H0 : Hid (∀ h : 0 < ((x0, 0) :: L').length, ((x0, 0) :: L')[0] = (x0, 0)) := Lib.hid (fun _ => rfl)
  have HL : Hid (((x0, 0) :: L').length = 4) := Lib.hid (by simp; omega)
  have HT1 : Hid (((x0, 0) :: L').take 1 = [(x0, 0)]) := Lib.hid rfl
  have HS := Lib.hid hsp
  clear hb hlen hsp ho
  generalize ((x0, 0) :: L') = L at *
  have hm := Lib.hid nuMod_any
  have hg := Lib.hid nuGcd_any
  obtain ⟨R, hR0⟩ : ∃ R, (-t) % (2 * A) = R := ⟨_, rfl⟩
  rw [hR0]
  have HR0 := Lib.hid hR0
  clear hR0
  go_enter Try.func90, Try.ntmps90
  go_wp2
  go_loopw [4, 13] (fun v4 v13 wr => SnSt L w v4 v13 wr) (fun _ v13 _ => 4 - (intOf v13).toNat)
  case atStart => exact ⟨0, 0, 0, 0, rfl, rfl, by omega, by (repeat (first | with_reducible assumption | (with_reducible apply Blk.new_at; (first | rfl | (simp; done))) | with_reducible apply Blk.store3 | with_reducible apply Blk.store4 | (with_reducible apply Blk.farp; (first | omega | (simp <;> omega))) | with_reducible apply Blk.allocp | with_reducible apply Blk.drew | with_reducible apply Blk.drewN)), by (repeat (first | with_reducible assumption | (with_reducible apply Blk.new_at; (first | rfl | (simp; done))) | with_reducible apply Blk.store3 | with_reducible apply Blk.store4 | (with_reducible apply Blk.farp; (first | omega | (simp <;> omega))) | with_reducible apply Blk.allocp | with_reducible apply Blk.drew | with_reducible apply Blk.drewN)), by decide, by decide, by omega, Lib.hid ⟨fun _ => rfl, fun h => by omega⟩, (by repeat (first | with_reducible exact Below.refl _ _ | with_reducible assumption | with_reducible apply Below.drew | with_reducible apply below_drewN | (with_reducible apply below_setp; (first | omega | (simp <;> omega))) | (with_reducible apply below_allocp; (first | omega | (simp <;> omega))) | (with_reducible refine below_viap (by assumption) ?_ ?_; (first | omega | (simp <;> omega)))))⟩
  case round =>
    obtain ⟨k, n, u, vv, rfl, rfl, hk, hT, hR, hu, hv, hn, hst, hbel⟩ := hrel
    have hz := hbel.size
    have cT := hT.cell; have fT := hT.frozen; have lT := hT.lt; have mT := Nat.ne_of_gt lT; have nT := Nat.ne_of_lt lT
    have cR := hR.cell; have fR := hR.frozen; have lR := hR.lt; have mR := Nat.ne_of_gt lR; have nR := Nat.ne_of_lt lR
    by_cases hlt : k < 4
    · obtain ⟨g, rfl, lg, d1, d2⟩ := own_elemP (own_call hbel HO.out) (show k < L.length by have := HL.out; omega)
      have ng : ¬ g = wr.heap.size := by omega
      have kI : (k : Int) < (L.length : Int) := by have := HL.out; omega
      by_cases hk0 : k = 0
      · subst hk0
        obtain rfl := hst.out.1 rfl
        obtain rfl : u = 0 := by simp [spT] at hu; exact hu
        obtain rfl : vv = 0 := by simp [spV] at hv; exact hv
        rw [H0.out (by have := HL.out; omega)] at d1 d2
        simp only at d1 d2
        have hG : Hid (∀ w, Calls Try.prog 94 #[.int .i64 0, .int .i64 x0] w fun e w' => e = .returned (.int .i64 x0) ∧ ∃ n, w' = w.drewN n) := Lib.hid (fun w => by
          have h := hg.out 0 x0 w (by omega) (by omega) (by omega) (by omega)
          rw [Int.gcd_zero_left, show ((x0.natAbs : Nat) : Int) = x0 by omega] at h
          exact h)
        have x1 := hx0.1; have x2 := hx0.2
        clear hst hn hu hv
        go_wp2
        refine wp_loop_rounds 1 ?_
        rw [rounds_succ]
        go_wp2_with (go_at_call 94; refine (hG.out _).mono ?_; rintro e v ⟨rfl, nq, rfl⟩)
        go_roundw
        case rel => exact ⟨1, x0, 0, 0, by go_num, rfl, by omega, by (repeat (first | with_reducible assumption | (with_reducible apply Blk.new_at; (first | rfl | (simp; done))) | with_reducible apply Blk.store3 | with_reducible apply Blk.store4 | (with_reducible apply Blk.farp; (first | omega | (simp <;> omega))) | with_reducible apply Blk.allocp | with_reducible apply Blk.drew | with_reducible apply Blk.drewN)), by (repeat (first | with_reducible assumption | (with_reducible apply Blk.new_at; (first | rfl | (simp; done))) | with_reducible apply Blk.store3 | with_reducible apply Blk.store4 | (with_reducible apply Blk.farp; (first | omega | (simp <;> omega))) | with_reducible apply Blk.allocp | with_reducible apply Blk.drew | with_reducible apply Blk.drewN)), by decide, by decide, by omega, Lib.hid ⟨fun h => by omega, fun _ => ⟨x1, by
          rw [HT1.out]
          refine SpEq.of (fun z hz => ?_) (fun z hz => Sp.mem (by simp only [List.mem_singleton] at hz; simp [hz]))
          rcases List.mem_cons.1 hz with rfl | hz
          · exact Sp.mem (by simp)
          · obtain rfl := List.mem_singleton.1 hz; exact Sp.zero _⟩⟩, (by repeat (first | with_reducible exact Below.refl _ _ | with_reducible assumption | with_reducible apply Below.drew | with_reducible apply below_drewN | (with_reducible apply below_setp; (first | omega | (simp <;> omega))) | (with_reducible apply below_allocp; (first | omega | (simp <;> omega))) | (with_reducible refine below_viap (by assumption) ?_ ?_; (first | omega | (simp <;> omega)))))⟩
        case measure => simp [intOf] <;> omega
      · obtain ⟨n0, hsp⟩ := hst.out.2 (by omega)
        obtain ⟨x1, y1⟩ := HB.out k (by have := HL.out; omega) (by omega)
        have HTk : Hid (L.take (k + 1) = L.take k ++ [L[k]]) := Lib.hid (List.take_succ_eq_append_getElem (by have := HL.out; omega))
        have HSp := Lib.hid hsp
        obtain ⟨⟨x, y⟩, hv0⟩ : ∃ z, L[k] = z := ⟨_, rfl⟩
        rw [hv0] at d1 d2 x1 y1 HTk
        simp only at d1 d2 x1 y1
        obtain ⟨b1, b2, b3, b4, b5, b6⟩ := spT_step (by omega) (by omega) hu hv x1 y1
        have B3 := Lib.hid b3
        obtain ⟨M, hM⟩ : ∃ M, spT (k + 1) = M := ⟨_, rfl⟩
        have HM := Lib.hid (show spT (k + 1) = M ∧ spV (k + 1) = 20000 from ⟨hM, b6⟩)
        rw [hM] at b1 b2 b4 B3
        clear hst hsp hv0 hu hv b3 b6 hM
        go_wp2
        go_loopw [7] (fun _ wi => SnIn n M ([(n, 0), (u, vv)] ++ [(x, y)]) w wr.heap.size wi) (fun _ wi => (cellI wi wr.heap.size 1).natAbs)
        case atStart => exact ⟨u, vv, x, y, by (repeat (first | with_reducible assumption | (with_reducible apply Blk.new_at; (first | rfl | (simp; done))) | with_reducible apply Blk.store3 | with_reducible apply Blk.store4 | (with_reducible apply Blk.farp; (first | omega | (simp <;> omega))) | with_reducible apply Blk.allocp | with_reducible apply Blk.drew | with_reducible apply Blk.drewN)), by (repeat (first | with_reducible assumption | (with_reducible apply Blk.new_at; (first | rfl | (simp; done))) | with_reducible apply Blk.store3 | with_reducible apply Blk.store4 | (with_reducible apply Blk.farp; (first | omega | (simp <;> omega))) | with_reducible apply Blk.allocp | with_reducible apply Blk.drew | with_reducible apply Blk.drewN)), by (repeat (first | with_reducible assumption | (with_reducible apply Blk.new_at; (first | rfl | (simp; done))) | with_reducible apply Blk.store3 | with_reducible apply Blk.store4 | (with_reducible apply Blk.farp; (first | omega | (simp <;> omega))) | with_reducible apply Blk.allocp | with_reducible apply Blk.drew | with_reducible apply Blk.drewN)), b1, b2, b5, y1, B3, Lib.hid (SpEq.refl _), (by repeat (first | with_reducible exact Below.refl _ _ | with_reducible assumption | with_reducible apply Below.drew | with_reducible apply below_drewN | (with_reducible apply below_setp; (first | omega | (simp <;> omega))) | (with_reducible apply below_allocp; (first | omega | (simp <;> omega))) | (with_reducible refine below_viap (by assumption) ?_ ?_; (first | omega | (simp <;> omega)))))⟩
        case round =>
          obtain ⟨u', v', x', y', hT', hX', hR', hu', hx', hv', hy', hp', hS', hbel'⟩ := hrel
          have hz' := hbel'.size
          have cT := hT'.cell; have fT := hT'.frozen; have lT := hT'.lt; have mT := Nat.ne_of_gt lT; have nT := Nat.ne_of_lt lT
          have cX := hX'.cell; have fX := hX'.frozen; have lX := hX'.lt; have mX := Nat.ne_of_gt lX; have nX := Nat.ne_of_lt lX
          have cR := hR'.cell; have fR := hR'.frozen; have lR := hR'.lt; have mR := Nat.ne_of_gt lR; have nR := Nat.ne_of_lt lR
          by_cases hy0 : y' = 0
          · subst hy0
            have hgp : 0 < (Int.gcd n x' : Int) := by
              have := Int.gcd_pos_of_ne_zero_left x' (show n ≠ 0 by omega)
              omega
            have hgl : (Int.gcd n x' : Int) ≤ n := Int.le_of_dvd n0 (Int.gcd_dvd_left ..)
            have HSn : Hid (SpEq [((Int.gcd n x' : Int), 0), (u', v')] (L.take (k + 1))) := Lib.hid (by
              rw [HTk.out]
              exact sn_gcd (hS'.out.trans (HSp.out.app (SpEq.refl _))))
            have hG := Lib.hid (fun w => hg.out n x' w (by omega) (by omega) (by omega) (by omega))
            generalize (Int.gcd n x' : Int) = m at *
            clear hS' HSp HTk hp' B3
            go_wp2_with (go_at_call 94; refine (hG.out _).mono ?_; rintro e v ⟨rfl, nq, rfl⟩)
            go_roundw
            case rel => exact ⟨k + 1, m, u', v', by go_num, rfl, by omega, by (repeat (first | with_reducible assumption | (with_reducible apply Blk.new_at; (first | rfl | (simp; done))) | with_reducible apply Blk.store3 | with_reducible apply Blk.store4 | (with_reducible apply Blk.farp; (first | omega | (simp <;> omega))) | with_reducible apply Blk.allocp | with_reducible apply Blk.drew | with_reducible apply Blk.drewN)), by (repeat (first | with_reducible assumption | (with_reducible apply Blk.new_at; (first | rfl | (simp; done))) | with_reducible apply Blk.store3 | with_reducible apply Blk.store4 | (with_reducible apply Blk.farp; (first | omega | (simp <;> omega))) | with_reducible apply Blk.allocp | with_reducible apply Blk.drew | with_reducible apply Blk.drewN)), by rw [HM.out.1]; exact hu', by rw [HM.out.2]; exact hv', by omega, Lib.hid ⟨fun h => by omega, fun _ => ⟨hgp, HSn.out⟩⟩, (by repeat (first | with_reducible exact Below.refl _ _ | with_reducible assumption | with_reducible apply Below.drew | with_reducible apply below_drewN | (with_reducible apply below_setp; (first | omega | (simp <;> omega))) | (with_reducible apply below_allocp; (first | omega | (simp <;> omega))) | (with_reducible refine below_viap (by assumption) ?_ ?_; (first | omega | (simp <;> omega)))))⟩
            case measure => simp [intOf] <;> omega
          · obtain ⟨q1, q2, q3, q4, q5, q6, q7⟩ := sn_step (v := v') hy0 hp'.out
            have HSn : Hid (SpEq [(n, 0), (x', y'), (u' - v'.tdiv y' * x', v' - v'.tdiv y' * y')] ([(n, 0), (u, vv)] ++ [(x, y)])) := Lib.hid (sn_eu.trans hS'.out)
            have n1 : (y' != 0) = true := by rw [bne_iff_ne]; exact hy0
            have n2 : (y' == 0) = false := beq_eq_false_iff_ne.2 hy0
            obtain ⟨q, hq⟩ : ∃ q, v'.tdiv y' = q := ⟨_, rfl⟩
            rw [hq] at q1 q2 q3 q4 q5 q6 q7 HSn
            have w0 : wrap64 q = q := IntWalk.wrap64_in _ (by omega)
            have w1 : wrap64 (q * x') = q * x' := IntWalk.wrap64_in _ (by omega)
            have w2 : wrap64 (u' - q * x') = u' - q * x' := IntWalk.wrap64_in _ (by omega)
            have w3 : wrap64 (q * y') = q * y' := IntWalk.wrap64_in _ (by omega)
            have w4 : wrap64 (v' - q * y') = v' - q * y' := IntWalk.wrap64_in _ (by omega)
            have i0 : IntKind.i64.wrap q = q := IntWalk.i64_in _ (by omega)
            have i1 : IntKind.i64.wrap (q * x') = q * x' := IntWalk.i64_in _ (by omega)
            have i2 : IntKind.i64.wrap (u' - q * x') = u' - q * x' := IntWalk.i64_in _ (by omega)
            have i3 : IntKind.i64.wrap (q * y') = q * y' := IntWalk.i64_in _ (by omega)
            have i4 : IntKind.i64.wrap (v' - q * y') = v' - q * y' := IntWalk.i64_in _ (by omega)
            have Q5 := Lib.hid q5
            have Q7 := Lib.hid (show x'.natAbs * (v' - q * y').natAbs + (u' - q * x').natAbs * y'.natAbs ≤ M by omega)
            have D6 : (v' - q * y').natAbs ≤ 20000 := by omega
            have nTX : w.heap.size + 1 ≠ wr.heap.size := by omega
            have nXT : wr.heap.size ≠ w.heap.size + 1 := by omega
            clear hS' q5 q7 hp' B3
            go_wp2
            go_region
            go_wp2
            rw [cellI_of hX']
            exact SnIn.pack ⟨x', y', u' - q * x', v' - q * y', by (repeat (first | with_reducible assumption | (with_reducible apply Blk.new_at; (first | rfl | (simp; done))) | with_reducible apply Blk.store2 | with_reducible apply Blk.store3 | with_reducible apply Blk.store4 | (with_reducible apply Blk.farp; (first | omega | (simp <;> omega))) | with_reducible apply Blk.allocp | with_reducible apply Blk.drew | with_reducible apply Blk.drewN)), by (repeat (first | with_reducible assumption | (with_reducible apply Blk.new_at; (first | rfl | (simp; done))) | with_reducible apply Blk.store2 | with_reducible apply Blk.store3 | with_reducible apply Blk.store4 | (with_reducible apply Blk.farp; (first | omega | (simp <;> omega))) | with_reducible apply Blk.allocp | with_reducible apply Blk.drew | with_reducible apply Blk.drewN)), by (repeat (first | with_reducible assumption | (with_reducible apply Blk.new_at; (first | rfl | (simp; done))) | with_reducible apply Blk.store2 | with_reducible apply Blk.store3 | with_reducible apply Blk.store4 | (with_reducible apply Blk.farp; (first | omega | (simp <;> omega))) | with_reducible apply Blk.allocp | with_reducible apply Blk.drew | with_reducible apply Blk.drewN)), hx', q3, hy', D6, Q7, HSn, (by repeat (first | with_reducible exact Below.refl _ _ | with_reducible assumption | with_reducible apply Below.drew | with_reducible apply below_drewN | (with_reducible apply below_setp; (first | omega | (simp <;> omega))) | (with_reducible apply below_allocp; (first | omega | (simp <;> omega))) | (with_reducible refine below_viap (by assumption) ?_ ?_; (first | omega | (simp <;> omega))))), Q5.out⟩
    · have ek : k = 4 := by omega
      subst ek
      obtain ⟨n0, hsp⟩ := hst.out.2 (by omega)
      rw [List.take_of_length_le (by have := HL.out; omega)] at hsp
      obtain ⟨z1, z2, r, z3, z4, z5⟩ := sn_end hsp HS.out n0 hA he
      have kI : ¬ ((4 : Nat) : Int) < (L.length : Int) := by have := HL.out; omega
      have hu2 : u.natAbs ≤ 170000000000000000 := hu
      have heA : 0 < e * A := Int.mul_pos he hA
      have hAe : A ≤ e * A := by have := Int.mul_le_mul_of_nonneg_right (show 1 ≤ e by omega) (show 0 ≤ A by omega); omega
      have hee : e ≤ e * A := by have := Int.mul_le_mul_of_nonneg_left (show 1 ≤ A by omega) (show 0 ≤ e by omega); omega
      have z2' := z2
      rw [Int.mul_assoc] at z2'
      have hP : ∀ P, P = e * r → P.natAbs ≤ 170000000000000000 → r.natAbs ≤ 170000000000000000 ∧ (-P).tdiv e = -r := fun P h1 h2 => by
        constructor
        · rw [h1, Int.natAbs_mul] at h2
          have := Nat.le_mul_of_pos_left r.natAbs (show 0 < e.natAbs by omega)
          omega
        · rw [h1, show -(e * r) = e * -r by rw [Int.mul_neg]]
          exact Int.mul_tdiv_cancel_left _ (by omega)
      have q1 : n.tdiv (2 * e) = A := by rw [z2]; exact Int.mul_tdiv_cancel_left _ (by omega)
      have hM : Hid (∀ w, Calls Try.prog 83 #[.int .i64 (-r), .int .i64 (2 * A)] w fun e w' => e = .returned (.int .i64 R) ∧ w = w') := Lib.hid (fun w => by
        have h := hm.out (-r) (2 * A) w (by omega) (by omega)
        rw [z5, HR0.out] at h
        exact h)
      have w1 : wrap64 (2 * e) = 2 * e := IntWalk.wrap64_in _ (by omega)
      have w2 : wrap64 A = A := IntWalk.wrap64_in _ (by omega)
      have w3 : wrap64 (2 * A) = 2 * A := IntWalk.wrap64_in _ (by omega)
      have i3 : IntKind.i64.wrap (2 * A) = 2 * A := IntWalk.i64_in _ (by omega)
      have be : e ≤ 400000000 := by omega
      have s1 : (e == 0) = false := beq_eq_false_iff_ne.2 (by omega)
      have s2 : (2 * e == 0) = false := beq_eq_false_iff_ne.2 (by omega)
      have s3 : ¬ e = 0 := by omega
      have s4 : ¬ 2 * e = 0 := by omega
      clear hst hsp HS z2 z2' z5 hm hg hu hv hAe hee heA
      by_cases hneg : vv < 0
      · obtain ⟨e1, e2⟩ := z3 hneg
        obtain ⟨r1, r2⟩ := hP (-u) e2 (by omega)
        have j1 : IntKind.i64.wrap (-vv) = e := by rw [e1]; exact IntWalk.i64_in _ (by omega)
        have j3 : IntKind.i64.wrap (-u) = -u := IntWalk.i64_in _ (by omega)
        have j4 : IntKind.i64.wrap u = u := IntWalk.i64_in _ (by omega)
        have j5 : wrap64 (-r) = -r := IntWalk.wrap64_in _ (by omega)
        have j6 : u.tdiv e = -r := by rw [Int.neg_neg] at r2; exact r2
        clear z3 z4 hP e2
        go_wp2_with (go_at_call 83; (with_reducible refine (hM.out _).mono ?_); rintro e v ⟨rfl, rfl⟩)
        exact bodyPost_ret (v := .agg #[.int .i64 e, .int .i64 A, .int .i64 R]) (by simp [results, Try.results90, go_sem, *]) rfl ⟨rfl, (by repeat (first | with_reducible exact Below.refl _ _ | with_reducible assumption | with_reducible apply Below.drew | with_reducible apply below_drewN | (with_reducible apply below_setp; (first | omega | (simp <;> omega))) | (with_reducible apply below_allocp; (first | omega | (simp <;> omega))) | (with_reducible refine below_viap (by assumption) ?_ ?_; (first | omega | (simp <;> omega)))))⟩
      · obtain ⟨e1, e2⟩ := z4 (by omega)
        obtain ⟨r1, r2⟩ := hP u e2 (by omega)
        subst e1
        have j2 : IntKind.i64.wrap (-u) = -u := IntWalk.i64_in _ (by omega)
        have j5 : wrap64 (-r) = -r := IntWalk.wrap64_in _ (by omega)
        clear z3 z4 hP e2
        go_wp2_with (go_at_call 83; (with_reducible refine (hM.out _).mono ?_); rintro e v ⟨rfl, rfl⟩)
        exact bodyPost_ret (v := .agg #[.int .i64 vv, .int .i64 A, .int .i64 R]) (by simp [results, Try.results90, go_sem, *]) rfl ⟨rfl, (by repeat (first | with_reducible exact Below.refl _ _ | with_reducible assumption | with_reducible apply Below.drew | with_reducible apply below_drewN | (with_reducible apply below_setp; (first | omega | (simp <;> omega))) | (with_reducible apply below_allocp; (first | omega | (simp <;> omega))) | (with_reducible refine below_viap (by assumption) ?_ ?_; (first | omega | (simp <;> omega)))))⟩
end Go.Proofs.Ytjjkndgokdofdaa
