/- Parts RQ RS RT laid together by tp.py. -/
import Derived.Test.YtohgccgbbipjjaaGreatXD
import Derived.Test.YtohgccgbbipjjaaGreatXA
import Derived.Test.YtohgccgbbipjjaaGreatEP
import Derived.Deep.DeepCutAuto
import Derived.Test.YtohgccgbbipjjaaGreatRO
namespace Go.Proofs.YtohgccgbbipjjaaGreat
section

theorem sn_step {u v x y : Int} {M : Nat} (hy : y ≠ 0) (hp : x.natAbs * v.natAbs + u.natAbs * y.natAbs ≤ M) :
    (v.tdiv y).natAbs ≤ v.natAbs ∧ (v.tdiv y * x).natAbs ≤ M ∧ (u - v.tdiv y * x).natAbs ≤ M ∧ (v.tdiv y * y).natAbs ≤ v.natAbs ∧ (v - v.tdiv y * y).natAbs < y.natAbs ∧ (v - v.tdiv y * y).natAbs ≤ v.natAbs ∧ (u - v.tdiv y * x).natAbs * y.natAbs + x.natAbs * (v - v.tdiv y * y).natAbs ≤ M := by
  have hr : v - v.tdiv y * y = v.tmod y := by
    have := Int.mul_tdiv_add_tmod v y
    rw [Int.mul_comm]; omega
  have h1 : (v.tdiv y).natAbs = v.natAbs / y.natAbs := Int.natAbs_tdiv v y
  have h2 : (v.tmod y).natAbs = v.natAbs % y.natAbs := Int.natAbs_tmod v y
  have h3 := Nat.div_add_mod v.natAbs y.natAbs
  have hy0 : 0 < y.natAbs := by omega
  have h4 := Nat.mod_lt v.natAbs hy0
  have h5 : (u - v.tdiv y * x).natAbs ≤ u.natAbs + v.natAbs / y.natAbs * x.natAbs := by
    have a1 := Int.natAbs_sub_le u (v.tdiv y * x)
    rw [Int.natAbs_mul, h1] at a1
    exact a1
  have h6 : v.natAbs / y.natAbs ≤ v.natAbs := Nat.div_le_self _ _
  have h7 : (u - v.tdiv y * x).natAbs * y.natAbs + x.natAbs * (v.natAbs % y.natAbs) ≤ M := by
    have a1 := Nat.mul_le_mul_right y.natAbs h5
    have a2 : (u.natAbs + v.natAbs / y.natAbs * x.natAbs) * y.natAbs + x.natAbs * (v.natAbs % y.natAbs) = u.natAbs * y.natAbs + x.natAbs * (y.natAbs * (v.natAbs / y.natAbs) + v.natAbs % y.natAbs) := by grind
    rw [h3] at a2
    omega
  have h8 : (v.tdiv y * x).natAbs ≤ M := by
    rw [Int.natAbs_mul, h1]
    have := Nat.mul_le_mul_right x.natAbs h6
    have e : v.natAbs * x.natAbs = x.natAbs * v.natAbs := Nat.mul_comm _ _
    omega
  have h9 : (u - v.tdiv y * x).natAbs ≤ M := by
    have := Nat.le_mul_of_pos_right (u - v.tdiv y * x).natAbs hy0
    omega
  have h10 : (v.tdiv y * y).natAbs ≤ v.natAbs := by
    rw [Int.natAbs_mul, h1]
    exact Nat.div_mul_le_self _ _
  rw [hr, h2]
  exact ⟨by omega, h8, h9, h10, h4, Nat.mod_le _ _, h7⟩
def spT (k : Nat) : Nat := if k ≤ 1 then 0 else if k = 2 then 200000000 else if k = 3 then 8000000000000 else 170000000000000000
def spV (k : Nat) : Nat := if k ≤ 1 then 0 else 20000
theorem spT_step {k : Nat} (h1 : 1 ≤ k) (h2 : k ≤ 3) {u v x y : Int} (hu : u.natAbs ≤ spT k) (hv : v.natAbs ≤ spV k) (hx : x.natAbs ≤ 200000000) (hy : y.natAbs ≤ 20000) :
    u.natAbs ≤ spT (k + 1) ∧ x.natAbs ≤ spT (k + 1) ∧ x.natAbs * v.natAbs + u.natAbs * y.natAbs ≤ spT (k + 1) ∧ spT (k + 1) ≤ 170000000000000000 ∧ v.natAbs ≤ 20000 ∧ spV (k + 1) = 20000 := by
  have m1 := Nat.mul_le_mul hx hv
  have m2 := Nat.mul_le_mul hu hy
  rcases (show k = 1 ∨ k = 2 ∨ k = 3 by omega) with rfl | rfl | rfl <;> (simp [spT, spV] at *; omega)
theorem sn_gcd {n u v x : Int} {S : List (Int × Int)} (h : SpEq [(n, 0), (u, v), (x, 0)] S) : SpEq [((Int.gcd n x : Int), 0), (u, v)] S := by
  have h1 : SpEq ([((Int.gcd n x : Int), 0)] ++ [(u, v)]) ([(n, 0), (x, 0)] ++ [(u, v)]) := (SpEq.gcd n x).app (SpEq.refl _)
  refine h1.trans ((SpEq.perm fun t => ?_).trans h)
  simp only [List.cons_append, List.nil_append, List.mem_cons, List.not_mem_nil, or_false]
  exact ⟨fun h => by rcases h with h | h | h <;> simp [h], fun h => by rcases h with h | h | h <;> simp [h]⟩
theorem sn_eu {n u v x y q : Int} : SpEq [(n, 0), (x, y), (u - q * x, v - q * y)] [(n, 0), (u, v), (x, y)] :=
  (SpEq.refl [(n, 0)]).app (SpEq.step q u v x y)
theorem sn_end {L : List (Int × Int)} {n u v A e t : Int} (h : SpEq [(n, 0), (u, v)] L) (hn : SpEq [(2 * e * A, 0), (e * t, e)] L) (h0 : 0 < n) (hA : 0 < A) (he : 0 < e) :
    v ≠ 0 ∧ n = 2 * e * A ∧ ∃ r, (v < 0 → -v = e ∧ -u = e * r) ∧ (0 < v → v = e ∧ u = e * r) ∧ (-r) % (2 * A) = (-t) % (2 * A) := by
  have hs := hn.trans h.symm
  have hN : 0 ≤ 2 * e * A := Int.le_of_lt (Int.mul_pos (by omega) hA)
  have fin : ∀ z : Int, n = 2 * e * A → n ∣ e * t - z → ∃ r, z = e * r ∧ (-r) % (2 * A) = (-t) % (2 * A) := by
    rintro z hn ⟨j, hj⟩
    refine ⟨t - 2 * A * j, by rw [hn] at hj; grind, ?_⟩
    rw [show -(t - 2 * A * j) = -t + 2 * A * j by omega, Int.add_mul_emod_self_left]
  rcases Int.lt_trichotomy v 0 with h1 | h1 | h1
  · have hs2 : SpEq [(2 * e * A, 0), (e * t, e)] [(n, 0), (-u, -v)] := hs.trans (SpEq.neg n u v).symm
    obtain ⟨e1, e2, e3⟩ := hnf_uniq h0 (show 0 < -v by omega) hN (by omega) hs2
    obtain ⟨r, r1, r2⟩ := fin (-u) e2.symm e3
    exact ⟨by omega, e2.symm, r, fun _ => ⟨e1.symm, r1⟩, fun h => by omega, r2⟩
  · exfalso
    obtain ⟨k, l, _, p2⟩ := Sp.two_iff.1 ((hs (e * t, e)).1 (Sp.mem (by simp)))
    rw [h1] at p2; simp at p2; omega
  · obtain ⟨e1, e2, e3⟩ := hnf_uniq h0 h1 hN (by omega) hs
    obtain ⟨r, r1, r2⟩ := fin u e2.symm e3
    exact ⟨by omega, e2.symm, r, fun h => by omega, fun _ => ⟨e1.symm, r1⟩, r2⟩
end

section
open Go.RowKit

def cellI (w : World) (g i : Nat) : Int := intOf ((w.cell? ⟨g, i, none⟩).getD (.int .i64 0))
/-- The state of the outer loop. -/
def SnSt (L : List (Int × Int)) (w : World) (v4 v13 : Value) (wr : World) : Prop :=
  ∃ (k : Nat) (n u v : Int), v13 = .int .i64 k ∧ v4 = .int .i64 n ∧ k ≤ 4 ∧ Blk wr (w.heap.size + 1) 76 #[.int .i64 u, .int .i64 v] ∧ Blk wr w.heap.size 25 #[.int .i64 0, .int .i64 0, .int .i64 0] ∧
    u.natAbs ≤ spT k ∧ v.natAbs ≤ spV k ∧ (0 ≤ n ∧ n ≤ 400000000) ∧ Hid ((k = 0 → n = 0) ∧ (1 ≤ k → 0 < n ∧ SpEq [(n, 0), (u, v)] (L.take k))) ∧ Below w.heap.size w wr
/-- The state of the inner loop. -/
def SnIn (n : Int) (M : Nat) (S : List (Int × Int)) (w : World) (gx : Nat) (wr : World) : Prop :=
  ∃ u v x y : Int, Blk wr (w.heap.size + 1) 76 #[.int .i64 u, .int .i64 v] ∧ Blk wr gx 76 #[.int .i64 x, .int .i64 y] ∧ Blk wr w.heap.size 25 #[.int .i64 0, .int .i64 0, .int .i64 0] ∧
    u.natAbs ≤ M ∧ x.natAbs ≤ M ∧ v.natAbs ≤ 20000 ∧ y.natAbs ≤ 20000 ∧ Hid (x.natAbs * v.natAbs + u.natAbs * y.natAbs ≤ M) ∧ Hid (SpEq [(n, 0), (u, v), (x, y)] S) ∧ Below w.heap.size w wr
theorem cellI_of {w : World} {g : Nat} {t : TypeId} {x y : Int} (h : Blk w g t #[.int .i64 x, .int .i64 y]) : cellI w g 1 = y := by
  unfold cellI
  rw [h.cell]; rfl
theorem SnIn.pack {n : Int} {M : Nat} {S : List (Int × Int)} {w wr : World} {gx m : Nat} (h : ∃ u v x y : Int, Blk wr (w.heap.size + 1) 76 #[.int .i64 u, .int .i64 v] ∧ Blk wr gx 76 #[.int .i64 x, .int .i64 y] ∧ Blk wr w.heap.size 25 #[.int .i64 0, .int .i64 0, .int .i64 0] ∧
    u.natAbs ≤ M ∧ x.natAbs ≤ M ∧ v.natAbs ≤ 20000 ∧ y.natAbs ≤ 20000 ∧ Hid (u.natAbs * y.natAbs + x.natAbs * v.natAbs ≤ M) ∧ Hid (SpEq [(n, 0), (u, v), (x, y)] S) ∧ Below w.heap.size w wr ∧ y.natAbs < m) : SnIn n M S w gx wr ∧ (cellI wr gx 1).natAbs < m := by
  obtain ⟨u, v, x, y, h1, h2, h3, h4, h5, h6, h7, h8, h9, h10, h11⟩ := h
  refine ⟨⟨u, v, x, y, h1, h2, h3, h4, h5, h6, h7, Lib.hid (by have := h8.out; omega), h9, h10⟩, ?_⟩
  rw [cellI_of h2]; exact h11
set_option maxRecDepth 100000 in
set_option maxHeartbeats 12800000 in
theorem idSpan_any (x0 : Int) (L' : List (Int × Int)) (A e t : Int) (v : Value) (B : Nat) (w : World) (hx0 : 0 < x0 ∧ x0 ≤ 200000000)
    (hb : ∀ p ∈ L', p.1.natAbs ≤ 200000000 ∧ p.2.natAbs ≤ 20000) (hlen : L'.length = 3) (hsp : SpEq [(2 * e * A, 0), (e * t, e)] ((x0, 0) :: L')) (hA : 0 < A) (he : 0 < e)
    (ho : w.ownsRow B 76 2 v ((x0, 0) :: L').length (cellsP ((x0, 0) :: L'))) :
    Calls Tryz.prog 64 #[v] w fun e1 w' => e1 = .returned (.agg #[.int .i64 e, .int .i64 A, .int .i64 ((-t) % (2 * A))]) ∧ Below w.heap.size w w' := by
  obtain ⟨bl, cl, rfl⟩ := own_shape ho
  have HO := Lib.hid ho
  have HB : Hid (∀ k (h : k < ((x0, 0) :: L').length), 1 ≤ k → (((x0, 0) :: L')[k]).1.natAbs ≤ 200000000 ∧ (((x0, 0) :: L')[k]).2.natAbs ≤ 20000) := Lib.hid (fun k h h1 => by
    obtain ⟨j, rfl⟩ : ∃ j, k = j + 1 := ⟨k - 1, by omega⟩
    exact hb _ (by rw [List.getElem_cons_succ]; exact List.getElem_mem _))
  have H0 : Hid (∀ h : 0 < ((x0, 0) :: L').length, ((x0, 0) :: L')[0] = (x0, 0)) := Lib.hid (fun _ => rfl)
  have HL : Hid (((x0, 0) :: L').length = 4) := Lib.hid (by simp; omega)
  have HT1 : Hid (((x0, 0) :: L').take 1 = [(x0, 0)]) := Lib.hid rfl
  have HS := Lib.hid hsp
  clear hb hlen hsp ho
  generalize ((x0, 0) :: L') = L at *
  have hm := Lib.hid nuMod_any
  have hg := Lib.hid nuGcd_any
  obtain ⟨R, hR0⟩ : ∃ R, (-t) % (2 * A) = R := ⟨_, rfl⟩
  rw [hR0]
  have HR0 := Lib.hid hR0
  clear hR0
  go_enter Tryz.func64, Tryz.ntmps64
  go_wp2
  go_loopw [4, 13] (fun v4 v13 wr => SnSt L w v4 v13 wr) (fun _ v13 _ => 4 - (intOf v13).toNat)
  case atStart => exact ⟨0, 0, 0, 0, rfl, rfl, by omega, by (repeat (first | with_reducible assumption | (with_reducible apply Blk.new_at; (first | rfl | (simp; done))) | with_reducible apply Blk.store3 | with_reducible apply Blk.store4 | (with_reducible apply Blk.farp; (first | omega | (simp <;> omega))) | with_reducible apply Blk.allocp | with_reducible apply Blk.drew | with_reducible apply Blk.drewN)), by (repeat (first | with_reducible assumption | (with_reducible apply Blk.new_at; (first | rfl | (simp; done))) | with_reducible apply Blk.store3 | with_reducible apply Blk.store4 | (with_reducible apply Blk.farp; (first | omega | (simp <;> omega))) | with_reducible apply Blk.allocp | with_reducible apply Blk.drew | with_reducible apply Blk.drewN)), by decide, by decide, by omega, Lib.hid ⟨fun _ => rfl, fun h => by omega⟩, (by repeat (first | with_reducible exact Below.refl _ _ | with_reducible assumption | with_reducible apply Below.drew | with_reducible apply below_drewN | (with_reducible apply below_setp; (first | omega | (simp <;> omega))) | (with_reducible apply below_allocp; (first | omega | (simp <;> omega))) | (with_reducible refine below_viap (by assumption) ?_ ?_; (first | omega | (simp <;> omega)))))⟩
  case round =>
    obtain ⟨k, n, u, vv, rfl, rfl, hk, hT, hR, hu, hv, hn, hst, hbel⟩ := hrel
    have hz := hbel.size
    have cT := hT.cell; have fT := hT.frozen; have lT := hT.lt; have mT := Nat.ne_of_gt lT; have nT := Nat.ne_of_lt lT
    have cR := hR.cell; have fR := hR.frozen; have lR := hR.lt; have mR := Nat.ne_of_gt lR; have nR := Nat.ne_of_lt lR
    by_cases hlt : k < 4
    · obtain ⟨g, rfl, lg, d1, d2⟩ := own_elemP (own_call hbel HO.out) (show k < L.length by have := HL.out; omega)
      have ng : ¬ g = wr.heap.size := by omega
      have kI : (k : Int) < (L.length : Int) := by have := HL.out; omega
      by_cases hk0 : k = 0
      · subst hk0
        obtain rfl := hst.out.1 rfl
        obtain rfl : u = 0 := by simp [spT] at hu; exact hu
        obtain rfl : vv = 0 := by simp [spV] at hv; exact hv
        rw [H0.out (by have := HL.out; omega)] at d1 d2
        simp only at d1 d2
        have hG : Hid (∀ w, Calls Tryz.prog 88 #[.int .i64 0, .int .i64 x0] w fun e w' => e = .returned (.int .i64 x0) ∧ ∃ n, w' = w.drewN n) := Lib.hid (fun w => by
          have h := hg.out 0 x0 w (by omega) (by omega) (by omega) (by omega)
          rw [Int.gcd_zero_left, show ((x0.natAbs : Nat) : Int) = x0 by omega] at h
          exact h)
        have x1 := hx0.1; have x2 := hx0.2
        clear hst hn hu hv
        go_wp2
        refine wp_loop_rounds 1 ?_
        rw [rounds_succ]
        go_wp2_with (go_at_call 88; refine (hG.out _).mono ?_; rintro e v ⟨rfl, nq, rfl⟩)
        go_roundw
        case rel => exact ⟨1, x0, 0, 0, by go_num, rfl, by omega, by (repeat (first | with_reducible assumption | (with_reducible apply Blk.new_at; (first | rfl | (simp; done))) | with_reducible apply Blk.store3 | with_reducible apply Blk.store4 | (with_reducible apply Blk.farp; (first | omega | (simp <;> omega))) | with_reducible apply Blk.allocp | with_reducible apply Blk.drew | with_reducible apply Blk.drewN)), by (repeat (first | with_reducible assumption | (with_reducible apply Blk.new_at; (first | rfl | (simp; done))) | with_reducible apply Blk.store3 | with_reducible apply Blk.store4 | (with_reducible apply Blk.farp; (first | omega | (simp <;> omega))) | with_reducible apply Blk.allocp | with_reducible apply Blk.drew | with_reducible apply Blk.drewN)), by decide, by decide, by omega, Lib.hid ⟨fun h => by omega, fun _ => ⟨x1, by
          rw [HT1.out]
          refine SpEq.of (fun z hz => ?_) (fun z hz => Sp.mem (by simp only [List.mem_singleton] at hz; simp [hz]))
          rcases List.mem_cons.1 hz with rfl | hz
          · exact Sp.mem (by simp)
          · obtain rfl := List.mem_singleton.1 hz; exact Sp.zero _⟩⟩, (by repeat (first | with_reducible exact Below.refl _ _ | with_reducible assumption | with_reducible apply Below.drew | with_reducible apply below_drewN | (with_reducible apply below_setp; (first | omega | (simp <;> omega))) | (with_reducible apply below_allocp; (first | omega | (simp <;> omega))) | (with_reducible refine below_viap (by assumption) ?_ ?_; (first | omega | (simp <;> omega)))))⟩
        case measure => simp [intOf] <;> omega
      · obtain ⟨n0, hsp⟩ := hst.out.2 (by omega)
        obtain ⟨x1, y1⟩ := HB.out k (by have := HL.out; omega) (by omega)
        have HTk : Hid (L.take (k + 1) = L.take k ++ [L[k]]) := Lib.hid (List.take_succ_eq_append_getElem (by have := HL.out; omega))
        have HSp := Lib.hid hsp
        obtain ⟨⟨x, y⟩, hv0⟩ : ∃ z, L[k] = z := ⟨_, rfl⟩
        rw [hv0] at d1 d2 x1 y1 HTk
        simp only at d1 d2 x1 y1
        obtain ⟨b1, b2, b3, b4, b5, b6⟩ := spT_step (by omega) (by omega) hu hv x1 y1
        have B3 := Lib.hid b3
        obtain ⟨M, hM⟩ : ∃ M, spT (k + 1) = M := ⟨_, rfl⟩
        have HM := Lib.hid (show spT (k + 1) = M ∧ spV (k + 1) = 20000 from ⟨hM, b6⟩)
        rw [hM] at b1 b2 b4 B3
        clear hst hsp hv0 hu hv b3 b6 hM
        go_wp2
        go_loopw [7] (fun _ wi => SnIn n M ([(n, 0), (u, vv)] ++ [(x, y)]) w wr.heap.size wi) (fun _ wi => (cellI wi wr.heap.size 1).natAbs)
        case atStart => exact ⟨u, vv, x, y, by (repeat (first | with_reducible assumption | (with_reducible apply Blk.new_at; (first | rfl | (simp; done))) | with_reducible apply Blk.store3 | with_reducible apply Blk.store4 | (with_reducible apply Blk.farp; (first | omega | (simp <;> omega))) | with_reducible apply Blk.allocp | with_reducible apply Blk.drew | with_reducible apply Blk.drewN)), by (repeat (first | with_reducible assumption | (with_reducible apply Blk.new_at; (first | rfl | (simp; done))) | with_reducible apply Blk.store3 | with_reducible apply Blk.store4 | (with_reducible apply Blk.farp; (first | omega | (simp <;> omega))) | with_reducible apply Blk.allocp | with_reducible apply Blk.drew | with_reducible apply Blk.drewN)), by (repeat (first | with_reducible assumption | (with_reducible apply Blk.new_at; (first | rfl | (simp; done))) | with_reducible apply Blk.store3 | with_reducible apply Blk.store4 | (with_reducible apply Blk.farp; (first | omega | (simp <;> omega))) | with_reducible apply Blk.allocp | with_reducible apply Blk.drew | with_reducible apply Blk.drewN)), b1, b2, b5, y1, B3, Lib.hid (SpEq.refl _), (by repeat (first | with_reducible exact Below.refl _ _ | with_reducible assumption | with_reducible apply Below.drew | with_reducible apply below_drewN | (with_reducible apply below_setp; (first | omega | (simp <;> omega))) | (with_reducible apply below_allocp; (first | omega | (simp <;> omega))) | (with_reducible refine below_viap (by assumption) ?_ ?_; (first | omega | (simp <;> omega)))))⟩
        case round =>
          obtain ⟨u', v', x', y', hT', hX', hR', hu', hx', hv', hy', hp', hS', hbel'⟩ := hrel
          have hz' := hbel'.size
          have cT := hT'.cell; have fT := hT'.frozen; have lT := hT'.lt; have mT := Nat.ne_of_gt lT; have nT := Nat.ne_of_lt lT
          have cX := hX'.cell; have fX := hX'.frozen; have lX := hX'.lt; have mX := Nat.ne_of_gt lX; have nX := Nat.ne_of_lt lX
          have cR := hR'.cell; have fR := hR'.frozen; have lR := hR'.lt; have mR := Nat.ne_of_gt lR; have nR := Nat.ne_of_lt lR
          by_cases hy0 : y' = 0
          · subst hy0
            have hgp : 0 < (Int.gcd n x' : Int) := by
              have := Int.gcd_pos_of_ne_zero_left x' (show n ≠ 0 by omega)
              omega
            have hgl : (Int.gcd n x' : Int) ≤ n := Int.le_of_dvd n0 (Int.gcd_dvd_left ..)
            have HSn : Hid (SpEq [((Int.gcd n x' : Int), 0), (u', v')] (L.take (k + 1))) := Lib.hid (by
              rw [HTk.out]
              exact sn_gcd (hS'.out.trans (HSp.out.app (SpEq.refl _))))
            have hG := Lib.hid (fun w => hg.out n x' w (by omega) (by omega) (by omega) (by omega))
            generalize (Int.gcd n x' : Int) = m at *
            clear hS' HSp HTk hp' B3
            go_wp2_with (go_at_call 88; refine (hG.out _).mono ?_; rintro e v ⟨rfl, nq, rfl⟩)
            go_roundw
            case rel => exact ⟨k + 1, m, u', v', by go_num, rfl, by omega, by (repeat (first | with_reducible assumption | (with_reducible apply Blk.new_at; (first | rfl | (simp; done))) | with_reducible apply Blk.store3 | with_reducible apply Blk.store4 | (with_reducible apply Blk.farp; (first | omega | (simp <;> omega))) | with_reducible apply Blk.allocp | with_reducible apply Blk.drew | with_reducible apply Blk.drewN)), by (repeat (first | with_reducible assumption | (with_reducible apply Blk.new_at; (first | rfl | (simp; done))) | with_reducible apply Blk.store3 | with_reducible apply Blk.store4 | (with_reducible apply Blk.farp; (first | omega | (simp <;> omega))) | with_reducible apply Blk.allocp | with_reducible apply Blk.drew | with_reducible apply Blk.drewN)), by rw [HM.out.1]; exact hu', by rw [HM.out.2]; exact hv', by omega, Lib.hid ⟨fun h => by omega, fun _ => ⟨hgp, HSn.out⟩⟩, (by repeat (first | with_reducible exact Below.refl _ _ | with_reducible assumption | with_reducible apply Below.drew | with_reducible apply below_drewN | (with_reducible apply below_setp; (first | omega | (simp <;> omega))) | (with_reducible apply below_allocp; (first | omega | (simp <;> omega))) | (with_reducible refine below_viap (by assumption) ?_ ?_; (first | omega | (simp <;> omega)))))⟩
            case measure => simp [intOf] <;> omega
          · obtain ⟨q1, q2, q3, q4, q5, q6, q7⟩ := sn_step (v := v') hy0 hp'.out
            have HSn : Hid (SpEq [(n, 0), (x', y'), (u' - v'.tdiv y' * x', v' - v'.tdiv y' * y')] ([(n, 0), (u, vv)] ++ [(x, y)])) := Lib.hid (sn_eu.trans hS'.out)
            have n1 : (y' != 0) = true := by rw [bne_iff_ne]; exact hy0
            have n2 : (y' == 0) = false := beq_eq_false_iff_ne.2 hy0
            obtain ⟨q, hq⟩ : ∃ q, v'.tdiv y' = q := ⟨_, rfl⟩
            rw [hq] at q1 q2 q3 q4 q5 q6 q7 HSn
            have w0 : wrap64 q = q := IntWalk.wrap64_in _ (by omega)
            have w1 : wrap64 (q * x') = q * x' := IntWalk.wrap64_in _ (by omega)
            have w2 : wrap64 (u' - q * x') = u' - q * x' := IntWalk.wrap64_in _ (by omega)
            have w3 : wrap64 (q * y') = q * y' := IntWalk.wrap64_in _ (by omega)
            have w4 : wrap64 (v' - q * y') = v' - q * y' := IntWalk.wrap64_in _ (by omega)
            have i0 : IntKind.i64.wrap q = q := IntWalk.i64_in _ (by omega)
            have i1 : IntKind.i64.wrap (q * x') = q * x' := IntWalk.i64_in _ (by omega)
            have i2 : IntKind.i64.wrap (u' - q * x') = u' - q * x' := IntWalk.i64_in _ (by omega)
            have i3 : IntKind.i64.wrap (q * y') = q * y' := IntWalk.i64_in _ (by omega)
            have i4 : IntKind.i64.wrap (v' - q * y') = v' - q * y' := IntWalk.i64_in _ (by omega)
            have Q5 := Lib.hid q5
            have Q7 := Lib.hid (show x'.natAbs * (v' - q * y').natAbs + (u' - q * x').natAbs * y'.natAbs ≤ M by omega)
            have D6 : (v' - q * y').natAbs ≤ 20000 := by omega
            have nTX : w.heap.size + 1 ≠ wr.heap.size := by omega
            have nXT : wr.heap.size ≠ w.heap.size + 1 := by omega
            clear hS' q5 q7 hp' B3
            go_wp2
            go_region
            go_wp2
            rw [cellI_of hX']
            exact SnIn.pack ⟨x', y', u' - q * x', v' - q * y', by (repeat (first | with_reducible assumption | (with_reducible apply Blk.new_at; (first | rfl | (simp; done))) | with_reducible apply Blk.store2 | with_reducible apply Blk.store3 | with_reducible apply Blk.store4 | (with_reducible apply Blk.farp; (first | omega | (simp <;> omega))) | with_reducible apply Blk.allocp | with_reducible apply Blk.drew | with_reducible apply Blk.drewN)), by (repeat (first | with_reducible assumption | (with_reducible apply Blk.new_at; (first | rfl | (simp; done))) | with_reducible apply Blk.store2 | with_reducible apply Blk.store3 | with_reducible apply Blk.store4 | (with_reducible apply Blk.farp; (first | omega | (simp <;> omega))) | with_reducible apply Blk.allocp | with_reducible apply Blk.drew | with_reducible apply Blk.drewN)), by (repeat (first | with_reducible assumption | (with_reducible apply Blk.new_at; (first | rfl | (simp; done))) | with_reducible apply Blk.store2 | with_reducible apply Blk.store3 | with_reducible apply Blk.store4 | (with_reducible apply Blk.farp; (first | omega | (simp <;> omega))) | with_reducible apply Blk.allocp | with_reducible apply Blk.drew | with_reducible apply Blk.drewN)), hx', q3, hy', D6, Q7, HSn, (by repeat (first | with_reducible exact Below.refl _ _ | with_reducible assumption | with_reducible apply Below.drew | with_reducible apply below_drewN | (with_reducible apply below_setp; (first | omega | (simp <;> omega))) | (with_reducible apply below_allocp; (first | omega | (simp <;> omega))) | (with_reducible refine below_viap (by assumption) ?_ ?_; (first | omega | (simp <;> omega))))), Q5.out⟩
    · have ek : k = 4 := by omega
      subst ek
      obtain ⟨n0, hsp⟩ := hst.out.2 (by omega)
      rw [List.take_of_length_le (by have := HL.out; omega)] at hsp
      obtain ⟨z1, z2, r, z3, z4, z5⟩ := sn_end hsp HS.out n0 hA he
      have kI : ¬ ((4 : Nat) : Int) < (L.length : Int) := by have := HL.out; omega
      have hu2 : u.natAbs ≤ 170000000000000000 := hu
      have heA : 0 < e * A := Int.mul_pos he hA
      have hAe : A ≤ e * A := by have := Int.mul_le_mul_of_nonneg_right (show 1 ≤ e by omega) (show 0 ≤ A by omega); omega
      have hee : e ≤ e * A := by have := Int.mul_le_mul_of_nonneg_left (show 1 ≤ A by omega) (show 0 ≤ e by omega); omega
      have z2' := z2
      rw [Int.mul_assoc] at z2'
      have hP : ∀ P, P = e * r → P.natAbs ≤ 170000000000000000 → r.natAbs ≤ 170000000000000000 ∧ (-P).tdiv e = -r := fun P h1 h2 => by
        constructor
        · rw [h1, Int.natAbs_mul] at h2
          have := Nat.le_mul_of_pos_left r.natAbs (show 0 < e.natAbs by omega)
          omega
        · rw [h1, show -(e * r) = e * -r by rw [Int.mul_neg]]
          exact Int.mul_tdiv_cancel_left _ (by omega)
      have q1 : n.tdiv (2 * e) = A := by rw [z2]; exact Int.mul_tdiv_cancel_left _ (by omega)
      have hM : Hid (∀ w, Calls Tryz.prog 58 #[.int .i64 (-r), .int .i64 (2 * A)] w fun e w' => e = .returned (.int .i64 R) ∧ w = w') := Lib.hid (fun w => by
        have h := hm.out (-r) (2 * A) w (by omega) (by omega)
        rw [z5, HR0.out] at h
        exact h)
      have w1 : wrap64 (2 * e) = 2 * e := IntWalk.wrap64_in _ (by omega)
      have w2 : wrap64 A = A := IntWalk.wrap64_in _ (by omega)
      have w3 : wrap64 (2 * A) = 2 * A := IntWalk.wrap64_in _ (by omega)
      have i3 : IntKind.i64.wrap (2 * A) = 2 * A := IntWalk.i64_in _ (by omega)
      have be : e ≤ 400000000 := by omega
      have s1 : (e == 0) = false := beq_eq_false_iff_ne.2 (by omega)
      have s2 : (2 * e == 0) = false := beq_eq_false_iff_ne.2 (by omega)
      have s3 : ¬ e = 0 := by omega
      have s4 : ¬ 2 * e = 0 := by omega
      clear hst hsp HS z2 z2' z5 hm hg hu hv hAe hee heA
      by_cases hneg : vv < 0
      · obtain ⟨e1, e2⟩ := z3 hneg
        obtain ⟨r1, r2⟩ := hP (-u) e2 (by omega)
        have j1 : IntKind.i64.wrap (-vv) = e := by rw [e1]; exact IntWalk.i64_in _ (by omega)
        have j3 : IntKind.i64.wrap (-u) = -u := IntWalk.i64_in _ (by omega)
        have j4 : IntKind.i64.wrap u = u := IntWalk.i64_in _ (by omega)
        have j5 : wrap64 (-r) = -r := IntWalk.wrap64_in _ (by omega)
        have j6 : u.tdiv e = -r := by rw [Int.neg_neg] at r2; exact r2
        clear z3 z4 hP e2
        go_wp2_with (go_at_call 58; (with_reducible refine (hM.out _).mono ?_); rintro e v ⟨rfl, rfl⟩)
        exact bodyPost_ret (v := .agg #[.int .i64 e, .int .i64 A, .int .i64 R]) (by simp [results, Tryz.results64, go_sem, *]) rfl ⟨rfl, (by repeat (first | with_reducible exact Below.refl _ _ | with_reducible assumption | with_reducible apply Below.drew | with_reducible apply below_drewN | (with_reducible apply below_setp; (first | omega | (simp <;> omega))) | (with_reducible apply below_allocp; (first | omega | (simp <;> omega))) | (with_reducible refine below_viap (by assumption) ?_ ?_; (first | omega | (simp <;> omega)))))⟩
      · obtain ⟨e1, e2⟩ := z4 (by omega)
        obtain ⟨r1, r2⟩ := hP u e2 (by omega)
        subst e1
        have j2 : IntKind.i64.wrap (-u) = -u := IntWalk.i64_in _ (by omega)
        have j5 : wrap64 (-r) = -r := IntWalk.wrap64_in _ (by omega)
        clear z3 z4 hP e2
        go_wp2_with (go_at_call 58; (with_reducible refine (hM.out _).mono ?_); rintro e v ⟨rfl, rfl⟩)
        exact bodyPost_ret (v := .agg #[.int .i64 vv, .int .i64 A, .int .i64 R]) (by simp [results, Tryz.results64, go_sem, *]) rfl ⟨rfl, (by repeat (first | with_reducible exact Below.refl _ _ | with_reducible assumption | with_reducible apply Below.drew | with_reducible apply below_drewN | (with_reducible apply below_setp; (first | omega | (simp <;> omega))) | (with_reducible apply below_allocp; (first | omega | (simp <;> omega))) | (with_reducible refine below_viap (by assumption) ?_ ?_; (first | omega | (simp <;> omega)))))⟩
end

section
open Go.RowKit

theorem infoIdE : (Tryz.prog.info? 76).map (fun i => (i.zero, i.size, i.bytes)) = some (some (.agg #[.int .i64 0, .int .i64 0]), 2, 16) := by kernel_rfl
theorem own_blk4 {w : World} {g : Nat} {t : TypeId} {a b c d : Value} (h : Blk w g t #[a, b, c, d]) : w.ownsRow g t 2 (.slice (some ⟨g, 0, none⟩) 2 2) 2 [a, b, c, d] :=
  ⟨rfl, .inr ⟨g, 2, #[a, b, c, d], rfl, Nat.le_refl _, h, Nat.le_refl _, by decide, rfl, rfl⟩⟩
/-- Two generators of an ideal. -/
def bsL (a b : Int) : List (Int × Int) := [(2 * a, 0), (-b, 1)]
theorem pd_list {d a b a' b' X Y : Int} (hX : b * b' + d = 2 * X) (hY : b + b' = -(2 * Y)) : ∀ i j (hi : i < (bsL a b).length) (hj : j < (bsL a' b').length), ∃ U V, (iL a b a' b' X Y).take (2 * i + (j + 1)) = (iL a b a' b' X Y).take (2 * i + j) ++ [(U, V)] ∧
    (bsL a b)[i].1 * (bsL a' b')[j].1 + d * (bsL a b)[i].2 * (bsL a' b')[j].2 = 2 * U ∧ (bsL a b)[i].1 * (bsL a' b')[j].2 + (bsL a b)[i].2 * (bsL a' b')[j].1 = 2 * V := by
  intro i j hi hj
  simp only [bsL, List.length_cons, List.length_nil] at hi hj
  rcases (show i = 0 ∨ i = 1 by omega) with rfl | rfl <;> rcases (show j = 0 ∨ j = 1 by omega) with rfl | rfl
  · exact ⟨2 * a * a', 0, rfl, by simp only [bsL, List.getElem_cons_zero]; grind, by simp only [bsL, List.getElem_cons_zero]; grind⟩
  · exact ⟨-a * b', a, rfl, by simp only [bsL, List.getElem_cons_zero, List.getElem_cons_succ]; grind, by simp only [bsL, List.getElem_cons_zero, List.getElem_cons_succ]; grind⟩
  · exact ⟨-a' * b, a', rfl, by simp only [bsL, List.getElem_cons_zero, List.getElem_cons_succ]; grind, by simp only [bsL, List.getElem_cons_zero, List.getElem_cons_succ]; grind⟩
  · exact ⟨X, Y, rfl, by simp only [bsL, List.getElem_cons_zero, List.getElem_cons_succ]; grind, by simp only [bsL, List.getElem_cons_zero, List.getElem_cons_succ]; grind⟩
theorem bsL_bd {a b : Int} (ha : 1 ≤ a ∧ a ≤ 10000) (hb : 0 ≤ b ∧ b ≤ 20000) : ∀ i (hi : i < (bsL a b).length), (-20000 ≤ (bsL a b)[i].1 ∧ (bsL a b)[i].1 ≤ 20000) ∧ (0 ≤ (bsL a b)[i].2 ∧ (bsL a b)[i].2 ≤ 1) := by
  intro i hi
  simp only [bsL, List.length_cons, List.length_nil] at hi
  rcases (show i = 0 ∨ i = 1 by omega) with rfl | rfl
  · simp only [bsL, List.getElem_cons_zero]; omega
  · simp only [bsL, List.getElem_cons_zero, List.getElem_cons_succ]; omega
/-- The state of the outer loop. -/
def PdSt (P : List (Int × Int)) (v : World) (v7 v20 : Value) (wr : World) : Prop :=
  ∃ i : Nat, v20 = .int .i64 i ∧ i ≤ 2 ∧ wr.ownsRow v.heap.size 76 2 v7 (P.take (2 * i)).length (cellsP (P.take (2 * i))) ∧ Below v.heap.size v wr
/-- The state of the inner loop. -/
def PdIn (P : List (Int × Int)) (i : Nat) (v : World) (gA gB : Nat) (xu xv a b : Int) (v7 v31 : Value) (wr : World) : Prop :=
  ∃ j : Nat, v31 = .int .i64 j ∧ j ≤ 2 ∧ wr.ownsRow v.heap.size 76 2 v7 (P.take (2 * i + j)).length (cellsP (P.take (2 * i + j))) ∧ Blk wr gA 76 #[.int .i64 xu, .int .i64 xv] ∧ Blk wr gB 76 #[.int .i64 (2 * a), .int .i64 0, .int .i64 (-b), .int .i64 1] ∧
    v7.ownBlock ≠ some gA ∧ v7.ownBlock ≠ some gB ∧ Below v.heap.size v wr
theorem own_elemQ {w : World} {B g : Nat} {e : TypeId} {n cap : Nat} {L : List (Int × Int)} (h : w.ownsRow B e 2 (.slice (some ⟨g, 0, none⟩) n cap) L.length (cellsP L)) {k : Nat} (hk : k < L.length) :
    g < w.heap.size ∧ w.cell? ⟨g, k * 2, none⟩ = some (.int .i64 L[k].1) ∧ w.cell? ⟨g, k * 2 + 1, none⟩ = some (.int .i64 L[k].2) := by
  obtain ⟨g', h1, h2⟩ := own_elemP h hk
  injection h1 with h1
  injection h1 with h1
  subst h1
  exact h2
theorem ne_back {v v' : Value} {g N : Nat} (h : v.ownBlock ≠ some g) (hg : g < N) (hl : v'.ownBlock = v.ownBlock ∨ v'.ownBlock = some N) : v'.ownBlock ≠ some g := by
  rcases hl with hl | hl
  · rw [hl]; exact h
  · rw [hl]; intro he; injection he with he; omega
set_option maxRecDepth 100000 in
set_option maxHeartbeats 12800000 in
theorem idProduct_any (d e1 a b e2 a' b' X Y A e t : Int) (w : World) (hd : -2000 ≤ d ∧ d ≤ 0) (h1 : 1 ≤ e1 ∧ e1 ≤ 10000) (h2 : 1 ≤ e2 ∧ e2 ≤ 10000) (ha : 1 ≤ a ∧ a ≤ 10000) (ha' : 1 ≤ a' ∧ a' ≤ 10000)
    (hb : 0 ≤ b ∧ b ≤ 19999) (hb' : 0 ≤ b' ∧ b' ≤ 19999) (hX : b * b' + d = 2 * X) (hY : b + b' = -(2 * Y)) (hsp : SpEq [(2 * e * A, 0), (e * t, e)] (iL a b a' b' X Y)) (hA : 0 < A) (he : 0 < e) (he2 : e ≤ 10000) :
    Calls Tryz.prog 24 #[.int .i64 d, .agg #[.int .i64 e1, .int .i64 a, .int .i64 b], .agg #[.int .i64 e2, .int .i64 a', .int .i64 b']] w fun x w' =>
      x = .returned (.agg #[.int .i64 (e * (e1 * e2)), .int .i64 A, .int .i64 ((-t) % (2 * A))]) ∧ Below w.heap.size w w' := by
  obtain ⟨i0, hi, hz0, hz1, hz2⟩ := info_parts infoIdE
  have m1 := mul_bd (a := a) (x := a') (A := 10000) (X := 10000) (by omega) (by omega) (by omega) (by omega)
  have m2 := mul_bd (a := a) (x := b') (A := 10000) (X := 19999) (by omega) (by omega) (by omega) (by omega)
  have m3 := mul_bd (a := a') (x := b) (A := 10000) (X := 19999) (by omega) (by omega) (by omega) (by omega)
  have m4 := mul_bd (a := b) (x := b') (A := 19999) (X := 19999) (by omega) (by omega) (by omega) (by omega)
  have m5 := mul_bd (a := e1) (x := e2) (A := 10000) (X := 10000) (by omega) (by omega) (by omega) (by omega)
  have m6 := mul_bd (a := e) (x := e1 * e2) (A := 10000) (X := 100000000) (by omega) (by omega) (by omega) (by omega)
  have p0 : 0 < a * a' := Int.mul_pos (by omega) (by omega)
  have p1 : 0 ≤ b * b' := Int.mul_nonneg hb.1 hb'.1
  have HSp := Lib.hid (fun (v : Value) B w ho => idSpan_any (2 * a * a') [(-a * b', a), (-a' * b, a'), (X, Y)] A e t v B w ⟨by rw [Int.mul_assoc]; omega, by rw [Int.mul_assoc]; omega⟩ (by
    intro p hp
    simp only [List.mem_cons, List.not_mem_nil, or_false] at hp
    rcases hp with rfl | rfl | rfl
    · exact ⟨by simp only [Int.neg_mul]; omega, by simp only; omega⟩
    · exact ⟨by simp only [Int.neg_mul]; omega, by simp only; omega⟩
    · exact ⟨by simp only; omega, by simp only; omega⟩) (by simp) hsp hA he ho)
  rw [show ((2 * a * a', (0 : Int)) :: [(-a * b', a), (-a' * b, a'), (X, Y)]) = iL a b a' b' X Y from rfl] at HSp
  have HP := Lib.hid (pd_list (a := a) (a' := a') hX hY)
  have HE := Lib.hid (bsL_bd ha ⟨hb.1, by omega⟩)
  have HE' := Lib.hid (bsL_bd ha' ⟨hb'.1, by omega⟩)
  have HPl : Hid ((iL a b a' b' X Y).length = 4) := Lib.hid rfl
  have HB1 := Lib.hid (fun w => idBasis_any a b w ha ⟨hb.1, by omega⟩)
  have HB2 := Lib.hid (fun w => idBasis_any a' b' w ha' ⟨hb'.1, by omega⟩)
  have hc1 : Hid ([.int .i64 (2 * a), .int .i64 0, .int .i64 (-b), .int .i64 1] = cellsP (bsL a b) ∧ 2 = (bsL a b).length) := Lib.hid ⟨rfl, rfl⟩
  have hc2 : Hid ([.int .i64 (2 * a'), .int .i64 0, .int .i64 (-b'), .int .i64 1] = cellsP (bsL a' b') ∧ 2 = (bsL a' b').length) := Lib.hid ⟨rfl, rfl⟩
  have w8 : wrap64 (e1 * e2) = e1 * e2 := IntWalk.wrap64_in _ (by omega)
  have w9 : wrap64 (e1 * e2 * e) = e * (e1 * e2) := by rw [Int.mul_comm (e1 * e2) e]; exact IntWalk.wrap64_in _ (by omega)
  clear m1 m2 m3 m4 m5 m6 hX hY hsp p0 p1 h1 h2
  generalize e * (e1 * e2) = G at *
  generalize (-t) % (2 * A) = R at *
  generalize iL a b a' b' X Y = P at *
  generalize bsL a b = E at *
  generalize bsL a' b' = E' at *
  go_enter Tryz.func24, Tryz.ntmps24
  go_wp2_with fail
  refine (HB1.out _).mono ?_
  rintro e2 v1 ⟨rfl, hb1, hB1⟩
  have hZ1 := hB1.size
  (try simp at hZ1)
  have hX1 : Blk v1 w.heap.size 25 #[.int .i64 e1, .int .i64 a, .int .i64 b] := Blk.call (by (repeat (first | with_reducible assumption | (with_reducible apply Blk.new_at; (first | rfl | (simp; done))) | with_reducible apply Blk.store3 | with_reducible apply Blk.store4 | (with_reducible apply Blk.farp; (first | omega | (simp <;> omega))) | with_reducible apply Blk.allocp | with_reducible apply Blk.drew | with_reducible apply Blk.drewN))) hB1
  have hY1 : Blk v1 (w.heap.size + 1) 25 #[.int .i64 e2, .int .i64 a', .int .i64 b'] := Blk.call (by (repeat (first | with_reducible assumption | (with_reducible apply Blk.new_at; (first | rfl | (simp; done))) | with_reducible apply Blk.store3 | with_reducible apply Blk.store4 | (with_reducible apply Blk.farp; (first | omega | (simp <;> omega))) | with_reducible apply Blk.allocp | with_reducible apply Blk.drew | with_reducible apply Blk.drewN))) hB1
  have hR1 : Blk v1 (w.heap.size + 1 + 1) 25 #[.int .i64 0, .int .i64 0, .int .i64 0] := Blk.call (by (repeat (first | with_reducible assumption | (with_reducible apply Blk.new_at; (first | rfl | (simp; done))) | with_reducible apply Blk.store3 | with_reducible apply Blk.store4 | (with_reducible apply Blk.farp; (first | omega | (simp <;> omega))) | with_reducible apply Blk.allocp | with_reducible apply Blk.drew | with_reducible apply Blk.drewN))) hB1
  have hE1 : v1.ownsRow (w.heap.size + 1 + 1 + 1 + 1) 76 2 (.slice (some ⟨w.heap.size + 1 + 1 + 1 + 1, 0, none⟩) 2 2) E.length (cellsP E) := by
    rw [← hc1.out.1, ← hc1.out.2]; exact own_blk4 (by simpa using hb1)
  have hbw : Below w.heap.size w v1 := (by repeat (first | with_reducible exact Below.refl _ _ | with_reducible assumption | with_reducible apply Below.drew | with_reducible apply below_drewN | (with_reducible apply below_setp; (first | omega | (simp <;> omega))) | (with_reducible apply below_allocp; (first | omega | (simp <;> omega))) | (with_reducible refine below_viap (by assumption) ?_ ?_; (first | omega | (simp <;> omega)))))
  have HE1 := Lib.hid hE1
  clear hb1 hE1 HB1 hB1
  go_wp2
  go_loopw [7, 20] (fun v7 v20 wr => PdSt P v1 v7 v20 wr) (fun _ v20 _ => 2 - (intOf v20).toNat)
  case atStart => exact ⟨0, rfl, by omega, World.ownsRow_nil _ _ _ _, Below.refl _ _⟩
  case round =>
    obtain ⟨i, rfl, hi2, hown, hbel⟩ := hrel
    have hz := hbel.size
    have hX0 := hX1.call hbel; have hY0 := hY1.call hbel; have hR0 := hR1.call hbel
    have cX := hX0.cell; have fX := hX0.frozen; have lX := hX0.lt; have mX := Nat.ne_of_gt lX; have nX := Nat.ne_of_lt lX
    have cY := hY0.cell; have fY := hY0.frozen; have lY := hY0.lt; have mY := Nat.ne_of_gt lY; have nY := Nat.ne_of_lt lY
    have cR := hR0.cell; have fR := hR0.frozen; have lR := hR0.lt; have mR := Nat.ne_of_gt lR; have nR := Nat.ne_of_lt lR
    by_cases hlt : i < 2
    · have hiE : i < E.length := by have := hc1.out.2; omega
      obtain ⟨lg, d1, d2⟩ := own_elemQ (own_call hbel HE1.out) hiE
      have hxb := HE.out i hiE
      have HPi := Lib.hid (fun j hj => HP.out i j hiE hj)
      obtain ⟨⟨xu, xv⟩, hxe⟩ : ∃ z, E[i] = z := ⟨_, rfl⟩
      rw [hxe] at d1 d2 hxb HPi
      simp only at d1 d2 hxb HPi
      have ng : ¬ w.heap.size + 1 + 1 + 1 + 1 = wr.heap.size := by omega
      have kI : (i : Int) < 2 := by omega
      have hlo := own_lt hown
      clear hxe HSp HP HE hc1
      go_wp2_with fail
      refine (HB2.out _).mono ?_
      rintro e3 v2 ⟨rfl, hb2, hB2⟩
      have hZ2 := hB2.size
      (try simp at hZ2)
      have hA2 : Blk v2 wr.heap.size 76 #[.int .i64 xu, .int .i64 xv] := Blk.call (by (repeat (first | with_reducible assumption | (with_reducible apply Blk.new_at; (first | rfl | (simp; done))) | with_reducible apply Blk.store3 | with_reducible apply Blk.store4 | (with_reducible apply Blk.farp; (first | omega | (simp <;> omega))) | with_reducible apply Blk.allocp | with_reducible apply Blk.drew | with_reducible apply Blk.drewN))) hB2
      have hown2 := own_call hB2 (own_alloc hown)
      have hbel2 : Below v1.heap.size v1 v2 := (by repeat (first | with_reducible exact Below.refl _ _ | with_reducible assumption | with_reducible apply Below.drew | with_reducible apply below_drewN | (with_reducible apply below_setp; (first | omega | (simp <;> omega))) | (with_reducible apply below_allocp; (first | omega | (simp <;> omega))) | (with_reducible refine below_viap (by assumption) ?_ ?_; (first | omega | (simp <;> omega)))))
      clear hB2
      go_wp2
      go_loopw [7, 31] (fun v7 v31 wi => PdIn P i v1 wr.heap.size (wr.heap.size + 1 + 1) xu xv a' b' v7 v31 wi) (fun _ v31 _ => 2 - (intOf v31).toNat)
      case atStart => exact ⟨0, rfl, by omega, hown2, hA2, by simpa using hb2, fun he => by have := hlo _ he; omega, fun he => by have := hlo _ he; omega, hbel2⟩
      case round =>
        obtain ⟨j, rfl, hj2, hown', hA', hE', hnA, hnE, hbel'⟩ := hrel
        have hz' := hbel'.size
        have cA := hA'.cell; have fA := hA'.frozen; have lA := hA'.lt; have mA := Nat.ne_of_gt lA; have nA := Nat.ne_of_lt lA
        by_cases hltj : j < 2
        · have hjE : j < E'.length := by have := hc2.out.2; omega
          obtain ⟨lgB, c1, c2⟩ := own_elemQ (w := wr) (L := E') (by rw [← hc2.out.1, ← hc2.out.2]; exact own_blk4 hE') hjE
          obtain ⟨U, V, hst, hU, hV⟩ := HPi.out j hjE
          have hyb := HE'.out j hjE
          obtain ⟨⟨yu, yv⟩, hye⟩ : ∃ z, E'[j] = z := ⟨_, rfl⟩
          rw [hye] at c1 c2 hyb hU hV
          simp only at c1 c2 hyb hU hV
          have hM := Lib.hid (fun w => idMul_any d xu xv yu yv U V w ⟨hd.1, by omega⟩ hxb.1 hyb.1 hxb.2 hyb.2 hU hV)
          have HST := Lib.hid hst
          have jI : (j : Int) < 2 := by omega
          have hPl : (P.take (2 * i + j)).length ≤ 4 := by rw [List.length_take, HPl.out]; exact Nat.min_le_right _ _
          have ngB := Nat.ne_of_lt lgB
          clear hst hU hV hye hxb hyb
          go_wp2_with (first
            | (go_at_call 63; (with_reducible refine (hM.out _).mono ?_); rintro e v3 ⟨rfl, hB3⟩; have hZ3 := hB3.size; (try simp at hZ3); have hown3 := own_call hB3 (own_alloc hown'); have hA3 := Blk.call (hA'.alloc _) hB3; have hE3 := Blk.call (hE'.alloc _) hB3; have hbel3 : Below v1.heap.size v1 v3 := (by repeat (first | with_reducible exact Below.refl _ _ | with_reducible assumption | with_reducible apply Below.drew | with_reducible apply below_drewN | (with_reducible apply below_setp; (first | omega | (simp <;> omega))) | (with_reducible apply below_allocp; (first | omega | (simp <;> omega))) | (with_reducible refine below_viap (by assumption) ?_ ?_; (first | omega | (simp <;> omega))))))
            | (at_builtin; refine wpList_append_own_at _ rfl (.tmp 35) (.tmp 40) 82 rfl v1.heap.size 76 i0 _ 2 16 Tryz.underlying82 hi hz0 hz1 hz2 rfl (by decide) _ _ _ rfl (own_alloc hown3) ⟨v3.heap.size, 0, none⟩ 1 1 [.int .i64 U, .int .i64 V] rfl rfl (cells2 (Blk.new_at (by simp))) (one2 _ _) ?_ ?_ ?_ ?_; (unfold maxLen; omega); omega; (simp; omega); intro x9 w9 hown9 hg9 _ hloc9))
          have hA9 := Blk.grown (hA3.alloc _) hg9 (fun he => hnA he.symm)
          have hE9 := Blk.grown (hE3.alloc _) hg9 (fun he => hnE he.symm)
          have hb9 : Below v1.heap.size v1 w9 := below_grown (own_ge hown') (by simp; omega) hg9 (by repeat (first | with_reducible exact Below.refl _ _ | with_reducible assumption | with_reducible apply Below.drew | with_reducible apply below_drewN | (with_reducible apply below_setp; (first | omega | (simp <;> omega))) | (with_reducible apply below_allocp; (first | omega | (simp <;> omega))) | (with_reducible refine below_viap (by assumption) ?_ ?_; (first | omega | (simp <;> omega)))))
          have ho9 := own_snocP (p := (U, V)) HST.out hown9
          have nA9 := ne_back hnA (by simp; omega) hloc9
          have nE9 := ne_back hnE (by simp; omega) hloc9
          clear hg9 hown9 hown' hown3 hloc9
          go_wp2
          go_roundw
          case rel => exact ⟨j + 1, by go_num, hltj, ho9, hA9, hE9, nA9, nE9, hb9⟩
          case measure => simp [intOf] <;> omega
        · have ej : j = 2 := by omega
          subst ej
          have jI : ¬ ((2 : Nat) : Int) < 2 := by decide
          rw [show 2 * i + 2 = 2 * (i + 1) by omega] at hown'
          go_wp2
          go_roundw
          case rel => exact ⟨i + 1, by go_num, hlt, hown', hbel'⟩
          case measure => simp [intOf] <;> omega
    · have ei : i = 2 := by omega
      subst ei
      rw [List.take_of_length_le (by rw [HPl.out]; omega)] at hown
      clear hlt
      go_wp2_with (go_at_call 64; (with_reducible refine (HSp.out _ _ _ hown).mono ?_); rintro e v4 ⟨rfl, hB4⟩; have hZ4 := hB4.size; (try simp at hZ4); (try have zl4 : w.heap.size < v4.heap.size := by omega); (try have ze4 : w.heap.size ≤ v4.heap.size := by omega); (try have zn4 : ¬ w.heap.size = v4.heap.size := by omega); (try have zm4 : ¬ v4.heap.size = w.heap.size := by omega); have hX4 : Blk v4 (w.heap.size) 25 #[.int .i64 e1, .int .i64 a, .int .i64 b] := Blk.call (by (repeat (first | with_reducible assumption | (with_reducible apply Blk.new_at; (first | rfl | (simp; done))) | with_reducible apply Blk.store3 | with_reducible apply Blk.store4 | (with_reducible apply Blk.farp; (first | omega | (simp <;> omega))) | with_reducible apply Blk.allocp | with_reducible apply Blk.drew | with_reducible apply Blk.drewN))) hB4; have cX4 := hX4.cell; have fX4 := hX4.frozen; have lX4 := hX4.lt; have mX4 := Nat.ne_of_gt lX4; have nX4 := Nat.ne_of_lt lX4; have hY4 : Blk v4 (w.heap.size + 1) 25 #[.int .i64 e2, .int .i64 a', .int .i64 b'] := Blk.call (by (repeat (first | with_reducible assumption | (with_reducible apply Blk.new_at; (first | rfl | (simp; done))) | with_reducible apply Blk.store3 | with_reducible apply Blk.store4 | (with_reducible apply Blk.farp; (first | omega | (simp <;> omega))) | with_reducible apply Blk.allocp | with_reducible apply Blk.drew | with_reducible apply Blk.drewN))) hB4; have cY4 := hY4.cell; have fY4 := hY4.frozen; have lY4 := hY4.lt; have mY4 := Nat.ne_of_gt lY4; have nY4 := Nat.ne_of_lt lY4; have hR4 : Blk v4 (w.heap.size + 1 + 1) 25 #[.int .i64 0, .int .i64 0, .int .i64 0] := Blk.call (by (repeat (first | with_reducible assumption | (with_reducible apply Blk.new_at; (first | rfl | (simp; done))) | with_reducible apply Blk.store3 | with_reducible apply Blk.store4 | (with_reducible apply Blk.farp; (first | omega | (simp <;> omega))) | with_reducible apply Blk.allocp | with_reducible apply Blk.drew | with_reducible apply Blk.drewN))) hB4; have cR4 := hR4.cell; have fR4 := hR4.frozen; have lR4 := hR4.lt; have mR4 := Nat.ne_of_gt lR4; have nR4 := Nat.ne_of_lt lR4)
      exact bodyPost_ret (v := .agg #[.int .i64 G, .int .i64 A, .int .i64 R]) (by simp [results, Tryz.results24, go_sem, *]) rfl ⟨rfl, (by repeat (first | with_reducible exact Below.refl _ _ | with_reducible assumption | with_reducible apply Below.drew | with_reducible apply below_drewN | (with_reducible apply below_setp; (first | omega | (simp <;> omega))) | (with_reducible apply below_allocp; (first | omega | (simp <;> omega))) | (with_reducible refine below_viap (by assumption) ?_ ?_; (first | omega | (simp <;> omega)))))⟩
end
end Go.Proofs.YtohgccgbbipjjaaGreat
