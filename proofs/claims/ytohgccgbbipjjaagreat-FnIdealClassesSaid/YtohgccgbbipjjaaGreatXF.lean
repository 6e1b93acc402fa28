/- Parts ZE ZF laid together by tp.py. -/
import Derived.Test.YtohgccgbbipjjaaGreatXA
import Derived.Test.YtohgccgbbipjjaaGreatXB
import Derived.Test.YtohgccgbbipjjaaGreatXE
import Derived.Test.YtohgccgbbipjjaaGreatZC
import Derived.Test.YtohgccgbbipjjaaGreatZD
namespace Go.Proofs.YtohgccgbbipjjaaGreat
section
open Go.RowKit

theorem sp_zero1 {u : Int} (L : List (Int × Int)) : SpEq ((u, 0) :: L) (((u.natAbs : Int), 0) :: L) := by
  rcases Int.natAbs_eq u with h | h
  · rw [← h]; exact SpEq.refl _
  · refine SpEq.of (fun z hz => ?_) (fun z hz => ?_)
    · rcases List.mem_cons.1 hz with rfl | hz
      · have := Sp.smul (-1) (((u.natAbs : Int), 0) :: L) (Sp.mem (x := ((u.natAbs : Int), 0)) (by simp))
        have e : (-1 * (u.natAbs : Int), (-1 : Int) * 0) = (u, 0) := Prod.ext (by show -1 * (u.natAbs : Int) = u; omega) rfl
        rw [← e]; exact this
      · exact Sp.mem (by simp [hz])
    · rcases List.mem_cons.1 hz with rfl | hz
      · have := Sp.smul (-1) ((u, 0) :: L) (Sp.mem (x := (u, 0)) (by simp))
        have e : (-1 * u, (-1 : Int) * 0) = ((u.natAbs : Int), 0) := Prod.ext (by show -1 * u = (u.natAbs : Int); omega) rfl
        rw [← e]; exact this
      · exact Sp.mem (by simp [hz])
/-- The end of the search, from its last pair. -/
theorem hm2_end {L : List (Int × Int)} {a b d N p e : Int} (h : SpEq [(a, 0), (b, d)] L) (hn : SpEq [(N, 0), (p, e)] L) (ha : 0 ≤ a) (hN : 0 < N) (he : 0 < e) : 0 < a := by
  rcases Int.lt_or_eq_of_le ha with h0 | h0
  · exact h0
  · exfalso
    subst h0
    have hs := hn.trans h.symm
    obtain ⟨k, l, p1, p2⟩ := Sp.two_iff.1 ((hs (N, 0)).1 (Sp.mem (by simp)))
    obtain ⟨k', l', q1, q2⟩ := Sp.two_iff.1 ((hs (p, e)).1 (Sp.mem (by simp)))
    rw [Int.mul_zero, Int.zero_add] at p1 p2 q1 q2
    rcases Int.mul_eq_zero.1 p2.symm with h | h
    · rw [h, Int.zero_mul] at p1; omega
    · rw [h, Int.mul_zero] at q2; omega
theorem hm2_det {N p e u v x y : Int} (h : SpEq [(N, 0), (p, e)] [(u, v), (x, y)]) (hN : 0 < N) (he : 0 < e) : u * y - v * x ≠ 0 := by
  intro h0
  obtain ⟨k3, l3, r1, r2⟩ := Sp.two_iff.1 ((h (N, 0)).1 (Sp.mem (by simp)))
  obtain ⟨k4, l4, s1, s2⟩ := Sp.two_iff.1 ((h (p, e)).1 (Sp.mem (by simp)))
  have d2 : N * e - p * 0 = (k3 * l4 - k4 * l3) * (u * y - v * x) := by
    have : N * e - p * 0 = (k3 * u + l3 * x) * (k4 * v + l4 * y) - (k4 * u + l4 * x) * (k3 * v + l3 * y) := by rw [← r1, ← r2, ← s1, ← s2]
    rw [this]; grind
  rw [h0, Int.mul_zero, Int.mul_zero, Int.sub_zero] at d2
  have := Int.mul_pos hN he
  omega
/-- The state of the loop over the second vector, where nothing is known of the first coordinates. -/
def HmJ (S : List (Int × Int)) (M : Nat) (v7 v8 v11 v12 : Value) : Prop :=
  ∃ b d x y : Int, v7 = .int .i64 b ∧ v8 = .int .i64 d ∧ v11 = .int .i64 x ∧ v12 = .int .i64 y ∧ b.natAbs ≤ M ∧ x.natAbs ≤ M ∧ d.natAbs ≤ 4000000000 ∧ y.natAbs ≤ 4000000000 ∧ Hid (x.natAbs * d.natAbs + b.natAbs * y.natAbs ≤ M) ∧ Hid (SpEq [(b, d), (x, y)] S)
set_option maxRecDepth 100000 in
set_option maxHeartbeats 12800000 in
theorem hermite2_any (u v x y N p e : Int) (vv : Value) (B M : Nat) (w : World) (hv : v.natAbs ≤ 4000000000 ∧ y.natAbs ≤ 4000000000) (hux : u.natAbs ≤ M ∧ x.natAbs ≤ M) (hM : x.natAbs * v.natAbs + u.natAbs * y.natAbs ≤ M) (hMM : M ≤ 4000000000000000)
    (hsp : SpEq [(N, 0), (p, e)] [(u, v), (x, y)]) (hN : 0 < N) (he : 0 < e) (ho : w.ownsRow B 73 2 vv 2 (cellsP [(u, v), (x, y)])) :
    Calls Tryz.prog 96 #[vv] w fun e1 w' => e1 = .returned (.tuple #[.int .i64 N, .int .i64 (p % N), .int .i64 e, .bool true]) ∧ Below w.heap.size w w' := by
  obtain ⟨bl, cl, rfl⟩ := own_shape ho
  obtain ⟨g, hbg, lg, d1, d2⟩ := own_elemP (L := [(u, v), (x, y)]) ho (k := 0) (by simp)
  subst hbg
  obtain ⟨g', hbg', _, d3, d4⟩ := own_elemP (L := [(u, v), (x, y)]) ho (k := 1) (by simp)
  injection hbg' with hbg'
  injection hbg' with hbg'
  subst hbg'
  simp only [List.getElem_cons_zero, List.getElem_cons_succ] at d1 d2 d3 d4
  have ng : ¬ g = w.heap.size := by omega
  have HS := Lib.hid hsp
  have hm := Lib.hid mod_any
  have hg := Lib.hid gcd_any
  clear hsp ho
  have hfin : Hid (∀ (a b d : Int), SpEq [(a, 0), (b, d)] [(u, v), (x, y)] → 0 < a → 0 ≤ b ∧ b < a → d ≠ 0 ∧ ((0 ≤ d → N = a ∧ e = d ∧ b = p % N) ∧ (d < 0 → N = a ∧ e = -d ∧ (-b) % a = p % N))) := Lib.hid (fun a b d h ha hb => by
    obtain ⟨z1, z2, z3⟩ := hm_end h HS.out ha hb hN he
    exact ⟨z1, fun h => by obtain ⟨e1, e2, e3⟩ := z2 (by omega); exact ⟨e1, e2, e3⟩, fun h => by obtain ⟨e1, e2, e3⟩ := z3 h; subst e1; exact ⟨rfl, e2, e3⟩⟩)
  go_enter Tryz.func96, Tryz.ntmps96
  go_wp2
  refine wp_loop_rounds 3 ?_
  rw [rounds_succ]
  have hdet := hm2_det HS.out hN he
  by_cases hv0 : v = 0
  · subst hv0
    rw [Int.zero_mul, Int.sub_zero] at hdet
    have hy0 : y ≠ 0 := fun h => hdet (by rw [h, Int.mul_zero])
    have hu0 : u ≠ 0 := fun h => hdet (by rw [h, Int.zero_mul])
    obtain ⟨a, ha⟩ : ∃ a : Int, (u.natAbs : Int) = a := ⟨_, rfl⟩
    have a0 : 0 < a := by omega
    have a1 : a ≤ 4000000000000000 := by omega
    have HSp : Hid (SpEq [(a, 0), (x % a, y)] [(u, 0), (x, y)]) := Lib.hid ((hm_red a0).trans (by rw [← ha]; exact (sp_zero1 _).symm))
    have hG : Hid (∀ w, Calls Tryz.prog 117 #[.int .i64 0, .int .i64 u] w fun e w' => e = .returned (.int .i64 a) ∧ ∃ n, w' = w.drewN n) := Lib.hid (fun w => by
      have h := hg.out 0 u w (by omega) (by omega) (by omega) (by omega)
      rw [Int.gcd_zero_left, ha] at h
      exact h)
    have hG2 : Hid (∀ w, Calls Tryz.prog 117 #[.int .i64 a, .int .i64 0] w fun e w' => e = .returned (.int .i64 a) ∧ ∃ n, w' = w.drewN n) := Lib.hid (fun w => by
      have h := hg.out a 0 w (by omega) (by omega) (by omega) (by omega)
      rw [Int.gcd_zero_right, show ((a.natAbs : Nat) : Int) = a by omega] at h
      exact h)
    have hM0 : Hid (∀ w, Calls Tryz.prog 76 #[.int .i64 0, .int .i64 a] w fun e w' => e = .returned (.int .i64 0) ∧ w = w') := Lib.hid (fun w => by
      have h := hm.out 0 a w a0 (by omega)
      rw [Int.zero_emod] at h
      exact h)
    have hM1 := Lib.hid (fun w => hm.out x a w a0 (by omega))
    have r0 := Int.emod_nonneg x (show a ≠ 0 by omega)
    have r1 := Int.emod_lt_of_pos x a0
    obtain ⟨b, hb⟩ : ∃ b, x % a = b := ⟨_, rfl⟩
    rw [hb] at hM1 HSp r0 r1
    have hF := Lib.hid (hfin.out a b y HSp.out a0 ⟨r0, r1⟩)
    have na : (a != 0) = true := by rw [bne_iff_ne]; omega
    have ny : (y != 0) = true := by rw [bne_iff_ne]; exact hy0
    have ny2 : (y == 0) = false := beq_eq_false_iff_ne.2 hy0
    have na2 : (a == 0) = false := beq_eq_false_iff_ne.2 (by omega)
    have hMn : Hid (∀ w, Calls Tryz.prog 76 #[.int .i64 (-b), .int .i64 a] w fun e w' => e = .returned (.int .i64 ((-b) % a)) ∧ w = w') := Lib.hid (fun w => hm.out (-b) a w a0 (by omega))
    have w9 : wrap64 (-y) = -y := IntWalk.wrap64_in _ (by omega)
    clear HSp hb hg hm ha hfin hdet hux hM hv HS
    go_wp2
    go_region
    go_wp2
    refine wp_loop_rounds 1 ?_
    rw [rounds_succ]
    go_wp2_with (first | (go_at_call 117; refine (hG.out _).mono ?_; rintro e v ⟨rfl, nq, rfl⟩) | (go_at_call 76; (with_reducible refine (hM0.out _).mono ?_); rintro e v ⟨rfl, rfl⟩))
    clear hG
    rw [rounds_succ]
    go_wp2
    go_region
    go_wp2
    refine wp_loop_rounds 2 ?_
    rw [rounds_succ]
    go_wp2_with (first | (go_at_call 76; (with_reducible refine (hM0.out _).mono ?_); rintro e v ⟨rfl, rfl⟩))
    rw [rounds_succ]
    go_wp2_with (first | (go_at_call 117; refine (hG2.out _).mono ?_; rintro e v ⟨rfl, nq, rfl⟩) | (go_at_call 76; (with_reducible refine (hM1.out _).mono ?_); rintro e v ⟨rfl, rfl⟩))
    rw [rounds_succ]
    clear hM0 hM1 hG2 hy0
    obtain ⟨z1, z2, z3⟩ := hF.out
    have nd : (y == 0) = false := beq_eq_false_iff_ne.2 z1
    by_cases hneg : y < 0
    · obtain ⟨e1, e2, e3⟩ := z3 hneg
      have HE : Hid (N = a ∧ e = -y) := Lib.hid ⟨e1, e2⟩
      rw [e3] at hMn
      clear z1 z2 z3 e1 e2 e3 hF
      go_wp2_with (go_at_call 76; (with_reducible refine (hMn.out _).mono ?_); rintro e v ⟨rfl, rfl⟩)
      obtain ⟨e1, e2⟩ := HE.out
      subst e1; subst e2
      exact bodyPost_ret (v := .tuple #[.int .i64 N, .int .i64 (p % N), .int .i64 (-y), .bool true]) (by simp [results, Tryz.results96, go_sem, *]) rfl ⟨rfl, (by repeat (first | with_reducible exact Below.refl _ _ | with_reducible assumption | with_reducible apply Below.drew | with_reducible apply below_drewN | (with_reducible apply below_setp; (first | omega | (simp <;> omega))) | (with_reducible apply below_allocp; (first | omega | (simp <;> omega))) | (with_reducible refine below_viap (by assumption) ?_ ?_; (first | omega | (simp <;> omega)))))⟩
    · obtain ⟨e1, e2, e3⟩ := z2 (by omega)
      have HE : Hid (N = a ∧ e = y ∧ b = p % N) := Lib.hid ⟨e1, e2, e3⟩
      clear z1 z2 z3 e1 e2 e3 hF
      go_wp2
      obtain ⟨e1, e2, e3⟩ := HE.out
      rw [← e3]
      subst e1; subst e2
      exact bodyPost_ret (v := .tuple #[.int .i64 N, .int .i64 b, .int .i64 e, .bool true]) (by simp [results, Tryz.results96, go_sem, *]) rfl ⟨rfl, (by repeat (first | with_reducible exact Below.refl _ _ | with_reducible assumption | with_reducible apply Below.drew | with_reducible apply below_drewN | (with_reducible apply below_setp; (first | omega | (simp <;> omega))) | (with_reducible apply below_allocp; (first | omega | (simp <;> omega))) | (with_reducible refine below_viap (by assumption) ?_ ?_; (first | omega | (simp <;> omega)))))⟩
  · have hG : Hid (∀ w, Calls Tryz.prog 117 #[.int .i64 0, .int .i64 0] w fun e w' => e = .returned (.int .i64 0) ∧ ∃ n, w' = w.drewN n) := Lib.hid (fun w => by
      have h := hg.out 0 0 w (by omega) (by omega) (by omega) (by omega)
      exact h)
    have nv : (v != 0) = true := by rw [bne_iff_ne]; exact hv0
    have nv2 : (v == 0) = false := beq_eq_false_iff_ne.2 hv0
    have HM0 := Lib.hid hM
    obtain ⟨hv1, hv2⟩ := hv
    obtain ⟨hu1, hu2⟩ := hux
    clear hdet hM
    go_wp2
    go_region
    go_wp2
    refine wp_loop_rounds 2 ?_
    rw [rounds_succ]
    go_wp2
    rw [rounds_succ]
    go_wp2_with (go_at_call 117; refine (hG.out _).mono ?_; rintro e v ⟨rfl, nq, rfl⟩)
    clear hG
    rw [rounds_succ]
    go_wp2
    go_region
    go_wp2
    go_loop [7, 8, 11, 12] (fun v7 v8 v11 v12 => HmJ [(u, v), (x, y)] M v7 v8 v11 v12) (fun _ _ _ v12 => (intOf v12).natAbs)
    case atStart => exact ⟨u, v, x, y, rfl, rfl, rfl, rfl, hu1, hu2, hv1, hv2, HM0, Lib.hid (SpEq.refl _)⟩
    case round =>
      clear HM0 nv nv2 hv0
      obtain ⟨b', d', x', y', rfl, rfl, rfl, rfl, hb', hx', hd', hy', hp', hS'⟩ := hrel
      by_cases hy0 : y' = 0
      · subst hy0
        have hsp1 : SpEq [((Int.gcd 0 x' : Int), 0), (b', d')] [(u, v), (x, y)] := sn_gcd (n := 0) (u := b') (v := d') (x := x') ((SpEq.of (fun z hz => by
          rcases List.mem_cons.1 hz with rfl | hz
          · exact Sp.zero _
          · exact Sp.mem hz) (fun z hz => Sp.mem (List.mem_cons_of_mem _ hz))).trans hS'.out)
        have a0 := hm2_end hsp1 HS.out (by omega) hN he
        obtain ⟨a, ha⟩ : ∃ a : Int, (Int.gcd 0 x' : Int) = a := ⟨_, rfl⟩
        have ha2 : a = x'.natAbs := by rw [← ha, Int.gcd_zero_left]
        rw [ha] at hsp1 a0
        have HSp : Hid (SpEq [(a, 0), (b' % a, d')] [(u, v), (x, y)]) := Lib.hid ((hm_red a0).trans hsp1)
        have hG2 : Hid (∀ w, Calls Tryz.prog 117 #[.int .i64 0, .int .i64 x'] w fun e w' => e = .returned (.int .i64 a) ∧ ∃ n, w' = w.drewN n) := Lib.hid (fun w => by
          have h := hg.out 0 x' w (by omega) (by omega) (by omega) (by omega)
          rw [ha] at h
          exact h)
        have hM1 := Lib.hid (fun w => hm.out b' a w a0 (by omega))
        have r0 := Int.emod_nonneg b' (show a ≠ 0 by omega)
        have r1 := Int.emod_lt_of_pos b' a0
        obtain ⟨b, hb⟩ : ∃ b, b' % a = b := ⟨_, rfl⟩
        rw [hb] at hM1 HSp r0 r1
        have hF := Lib.hid (hfin.out a b d' HSp.out a0 ⟨r0, r1⟩)
        have na : (a != 0) = true := by rw [bne_iff_ne]; omega
        have na2 : (a == 0) = false := beq_eq_false_iff_ne.2 (by omega)
        have a1 : a ≤ 4000000000000000 := by omega
        have hMn : Hid (∀ w, Calls Tryz.prog 76 #[.int .i64 (-b), .int .i64 a] w fun e w' => e = .returned (.int .i64 ((-b) % a)) ∧ w = w') := Lib.hid (fun w => hm.out (-b) a w a0 (by omega))
        have w9 : wrap64 (-d') = -d' := IntWalk.wrap64_in _ (by omega)
        clear hsp1 HSp hb hg hm ha ha2 hfin HS hp' hS' hb' hx'
        go_wp2_with (first | (go_at_call 117; refine (hG2.out _).mono ?_; rintro e v ⟨rfl, nq, rfl⟩) | (go_at_call 76; (with_reducible refine (hM1.out _).mono ?_); rintro e v ⟨rfl, rfl⟩))
        rw [rounds_succ]
        clear hG2 hM1
        obtain ⟨z1, z2, z3⟩ := hF.out
        have nd : (d' == 0) = false := beq_eq_false_iff_ne.2 z1
        by_cases hneg : d' < 0
        · obtain ⟨e1, e2, e3⟩ := z3 hneg
          have HE : Hid (N = a ∧ e = -d') := Lib.hid ⟨e1, e2⟩
          rw [e3] at hMn
          clear z1 z2 z3 e1 e2 e3 hF
          go_wp2_with (go_at_call 76; (with_reducible refine (hMn.out _).mono ?_); rintro e v ⟨rfl, rfl⟩)
          obtain ⟨e1, e2⟩ := HE.out
          subst e1; subst e2
          exact bodyPost_ret (v := .tuple #[.int .i64 N, .int .i64 (p % N), .int .i64 (-d'), .bool true]) (by simp [results, Tryz.results96, go_sem, *]) rfl ⟨rfl, (by repeat (first | with_reducible exact Below.refl _ _ | with_reducible assumption | with_reducible apply Below.drew | with_reducible apply below_drewN | (with_reducible apply below_setp; (first | omega | (simp <;> omega))) | (with_reducible apply below_allocp; (first | omega | (simp <;> omega))) | (with_reducible refine below_viap (by assumption) ?_ ?_; (first | omega | (simp <;> omega)))))⟩
        · obtain ⟨e1, e2, e3⟩ := z2 (by omega)
          have HE : Hid (N = a ∧ e = d' ∧ b = p % N) := Lib.hid ⟨e1, e2, e3⟩
          clear z1 z2 z3 e1 e2 e3 hF
          go_wp2
          obtain ⟨e1, e2, e3⟩ := HE.out
          rw [← e3]
          subst e1; subst e2
          exact bodyPost_ret (v := .tuple #[.int .i64 N, .int .i64 b, .int .i64 e, .bool true]) (by simp [results, Tryz.results96, go_sem, *]) rfl ⟨rfl, (by repeat (first | with_reducible exact Below.refl _ _ | with_reducible assumption | with_reducible apply Below.drew | with_reducible apply below_drewN | (with_reducible apply below_setp; (first | omega | (simp <;> omega))) | (with_reducible apply below_allocp; (first | omega | (simp <;> omega))) | (with_reducible refine below_viap (by assumption) ?_ ?_; (first | omega | (simp <;> omega)))))⟩
      · obtain ⟨s1, s2, s3, s4, s5, s6, s7⟩ := sn_step hy0 hp'.out
        have n1 : (y' != 0) = true := by rw [bne_iff_ne]; exact hy0
        have n2 : (y' == 0) = false := beq_eq_false_iff_ne.2 hy0
        have HSn : Hid (SpEq [(x', y'), (b' - d'.tdiv y' * x', d' - d'.tdiv y' * y')] [(u, v), (x, y)]) := Lib.hid ((SpEq.step _ _ _ _ _).trans hS'.out)
        obtain ⟨q, hq⟩ : ∃ q, d'.tdiv y' = q := ⟨_, rfl⟩
        rw [hq] at s1 s2 s3 s4 s5 s6 s7 HSn
        have w0 : wrap64 q = q := IntWalk.wrap64_in _ (by omega)
        have w1 : wrap64 (q * x') = q * x' := IntWalk.wrap64_in _ (by omega)
        have w2 : wrap64 (b' - q * x') = b' - q * x' := IntWalk.wrap64_in _ (by omega)
        have w3 : wrap64 (q * y') = q * y' := IntWalk.wrap64_in _ (by omega)
        have w4 : wrap64 (d' - q * y') = d' - q * y' := IntWalk.wrap64_in _ (by omega)
        have Q3 := Lib.hid s5
        have HP2 : Hid ((b' - q * x').natAbs * y'.natAbs + x'.natAbs * (d' - q * y').natAbs ≤ M) := Lib.hid s7
        have D5 : (d' - q * y').natAbs ≤ 4000000000 := by omega
        clear hS' hp' s5 s7 s1 s2 s4 s6
        go_wp2
        go_round
        case rel => exact ⟨x', y', b' - q * x', d' - q * y', rfl, rfl, rfl, rfl, hx', s3, hy', D5, HP2, HSn⟩
        case measure => simp [intOf]; exact Q3.out
set_option maxRecDepth 100000 in
set_option maxHeartbeats 6400000 in
theorem idealOf2_any (u v x y A e t x0 : Int) (M : Nat) (vv : Value) (B : Nat) (w : World) (hv : v.natAbs ≤ 4000000000 ∧ y.natAbs ≤ 4000000000) (hux : u.natAbs ≤ M ∧ x.natAbs ≤ M) (hMu : x.natAbs * v.natAbs + u.natAbs * y.natAbs ≤ M) (hMM : M ≤ 4000000000000000)
    (hx0 : 0 < x0 ∧ x0 ≤ 4000000000000000) (hNx : 2 * e * A ≤ x0) (hsp : SpEq [(2 * e * A, 0), (e * t, e)] [(u, v), (x, y)]) (hA : 0 < A) (he : 0 < e)
    (ho : w.ownsRow B 73 2 vv 2 (cellsP [(u, v), (x, y)])) :
    Calls Tryz.prog 69 #[vv] w fun e1 w' => e1 = .returned (.agg #[.int .i64 e, .int .i64 A, .int .i64 ((-t) % (2 * A))]) ∧ Below w.heap.size w w' := by
  have heA : 0 < e * A := Int.mul_pos he hA
  have hAe : A ≤ e * A := by have := Int.mul_le_mul_of_nonneg_right (show 1 ≤ e by omega) (show 0 ≤ A by omega); omega
  have hee : e ≤ e * A := by have := Int.mul_le_mul_of_nonneg_left (show 1 ≤ A by omega) (show 0 ≤ e by omega); omega
  rw [Int.mul_assoc] at hNx
  obtain ⟨k1, k2, k3, k4⟩ := kap_facts (A := A) (t := t) he
  have hH := Lib.hid (fun w ho => hermite2_any u v x y (2 * e * A) (e * t) e vv B M w hv hux hMu hMM hsp (by rw [Int.mul_assoc]; omega) he ho)
  rw [k1] at hH
  have HO := Lib.hid ho
  have r1 := Int.emod_nonneg t (show 2 * A ≠ 0 by omega)
  have r2 := Int.emod_lt_of_pos t (show 0 < 2 * A by omega)
  have hM : Hid (∀ w, Calls Tryz.prog 76 #[.int .i64 (-(t % (2 * A))), .int .i64 (2 * A)] w fun e w' => e = .returned (.int .i64 ((-t) % (2 * A))) ∧ w = w') := Lib.hid (fun w => by
    have h := mod_any (-(t % (2 * A))) (2 * A) w (by omega) (by omega)
    rw [k3] at h
    exact h)
  have hb0 : e * (t % (2 * A)) ≤ 2 * (e * A) := by have := Int.mul_le_mul_of_nonneg_left (show t % (2 * A) ≤ 2 * A by omega) (show 0 ≤ e by omega); rw [show e * (2 * A) = 2 * (e * A) by grind] at this; exact this
  have hb1 : 0 ≤ e * (t % (2 * A)) := Int.mul_nonneg (by omega) r1
  have hN0 : 0 < 2 * e * A := by rw [Int.mul_assoc]; omega
  have hN1 : 2 * e * A ≤ 4000000000000000 := by rw [Int.mul_assoc]; omega
  generalize (-t) % (2 * A) = R at *
  generalize t % (2 * A) = κ at *
  generalize e * κ = b at *
  generalize 2 * e * A = N at *
  have hx1 := hx0.2
  have e0 : (e == 0) = false := beq_eq_false_iff_ne.2 (by omega)
  have e1 : ¬ e = 0 := by omega
  have w1 : wrap64 (2 * A) = 2 * A := IntWalk.wrap64_in _ (by omega)
  have i1 : IntKind.i64.wrap (-b) = -b := IntWalk.i64_in _ (by omega)
  have i2 : IntKind.i64.wrap (-κ) = -κ := IntWalk.i64_in _ (by omega)
  have i3 : IntKind.i64.wrap (2 * A) = 2 * A := IntWalk.i64_in _ (by omega)
  have w0 : wrap64 A = A := IntWalk.wrap64_in _ (by omega)
  have a2 : (2 * A).tdiv 2 = A := by rw [Int.tdiv_eq_ediv_of_nonneg (by omega)]; omega
  have a3 : (2 * A) / 2 = A := by omega
  clear hsp hv hux hMu hMM ho k1 k3 hNx hAe hee heA hx0
  go_enter Tryz.func69, Tryz.ntmps69
  go_wp2_with fail
  refine (hH.out _ (own_alloc HO.out)).mono ?_
  rintro e2 v1 ⟨rfl, hB1⟩
  have hZ1 := hB1.size
  (try simp at hZ1)
  have hR1 : Blk v1 w.heap.size 25 #[.int .i64 0, .int .i64 0, .int .i64 0] := Blk.call (by (repeat (first | with_reducible assumption | (with_reducible apply Blk.new_at; (first | rfl | (simp; done))) | with_reducible apply Blk.store3 | with_reducible apply Blk.store4 | (with_reducible apply Blk.farp; (first | omega | (simp <;> omega))) | with_reducible apply Blk.allocp | with_reducible apply Blk.drew | with_reducible apply Blk.drewN))) hB1
  have cR1 := hR1.cell; have fR1 := hR1.frozen; have lR1 := hR1.lt; have mR1 := Nat.ne_of_gt lR1; have nR1 := Nat.ne_of_lt lR1
  go_wp2
  refine wp_region_calm 8 (Below (v1.heap.size + 1) _) (by kernel_rfl) (by kernel_rfl) ((Below.refl _ _).drew) ?_
  simp only [List.take_succ_cons, List.take_zero, List.drop_succ_cons, List.drop_zero]
  repeat (first | (apply wpCalm_go; go_simp; (intro w' hw' hcc hff; go_simp; first | exact rfl | ((with_reducible refine (hM.out _).mono ?_); rintro e w1 ⟨rfl, hb⟩; exact ⟨rfl, calm_call_same hw' hb⟩)); (intro K hK; go_simp; refine hK _ ?_; clear hK K)) | (apply wpCalm_skip; go_simp; (try (focus (simp [undef]; done))); (intro K hK; go_simp; refine hK _ ?_; clear hK K)))
  refine wpCalm_nil ?_
  intro w1 hw1
  have hcc := (calm_cells hw1).1
  have hff := (calm_cells hw1).2
  have hss := calm_size hw1
  have hsz := hw1.size
  (try simp at hsz)
  have hX2 : Blk w1 v1.heap.size 25 #[.int .i64 e, .int .i64 A, .int .i64 0] := (Blk.new v1 _ _).below hw1 (by omega)
  have hR2 : Blk w1 w.heap.size 25 #[.int .i64 0, .int .i64 0, .int .i64 0] := (hR1.alloc _).below hw1 (by omega)
  have cX2 := hX2.cell; have fX2 := hX2.frozen; have lX2 := hX2.lt
  have cR2 := hR2.cell; have fR2 := hR2.frozen; have lR2 := hR2.lt
  have hz1 := hw1.size
  clear hcc hff hss cR1 fR1
  go_wp2
  exact bodyPost_ret (v := .agg #[.int .i64 e, .int .i64 A, .int .i64 R]) (by simp [results, Tryz.results69, go_sem, *]) rfl ⟨rfl, (by repeat (first | with_reducible exact Below.refl _ _ | with_reducible assumption | with_reducible apply Below.drew | with_reducible apply below_drewN | (with_reducible apply below_setp; (first | omega | (simp <;> omega))) | (with_reducible apply below_allocp; (first | omega | (simp <;> omega))) | (with_reducible refine below_viap (by assumption) ?_ ?_; (first | omega | (simp <;> omega)))))⟩
theorem own_blk2v {w : World} {g : Nat} {t : TypeId} {a b c d : Value} (h : Blk w g t #[a, b, c, d]) : w.ownsRow g t 2 (.slice (some ⟨g, 0, none⟩) 2 2) 2 [a, b, c, d] :=
  ⟨rfl, .inr ⟨g, 2, _, rfl, Nat.le_refl _, h, by omega, by unfold maxLen; omega, rfl, rfl⟩⟩
/-- What is asked of an element: its norm, small numbers, its multiple by the second basis element. -/
structure ElV (d u v a : Int) : Prop where
  d1 : -2000 ≤ d
  d2 : d ≤ -3
  d4 : d % 4 < 2
  a0 : 0 < a
  ab : a ≤ 1000000000000000
  nm : u * u - d * v * v = 4 * a
  ub : -1000000 ≤ u ∧ u ≤ 1000000
  vb : -1000000 ≤ v ∧ v ≤ 1000000
theorem ElV.par {d u v a : Int} (h : ElV d u v a) : (u - d * v) % 2 = 0 := by
  have e := h.nm
  have e1 : u * u % 2 = u % 2 := by rw [Int.mul_emod]; rcases Int.emod_two_eq u with h | h <;> rw [h] <;> rfl
  have e2 : v * v % 2 = v % 2 := by rw [Int.mul_emod]; rcases Int.emod_two_eq v with h | h <;> rw [h] <;> rfl
  have e3 : (u * u - d * (v * v)) % 2 = 0 := by rw [← Int.mul_assoc, e]; omega
  have e4 : (u - d * v) % 2 = (u * u - d * (v * v)) % 2 := by
    rw [Int.sub_emod, Int.sub_emod (u * u), e1, Int.mul_emod d v, Int.mul_emod d (v * v), e2]
  omega
/-- The two generators. -/
theorem ElV.gens {d u v a : Int} (h : ElV d u v a) : ∃ X Y m, d = 4 * m + d % 2 ∧ d % 2 * (d % 2) = d % 2 ∧ d % 2 * u + d * v = 2 * X ∧ u + d % 2 * v = 2 * Y ∧ (-2000000000 ≤ X ∧ X ≤ 2000000000) ∧ (-1000000 ≤ Y ∧ Y ≤ 1000000) ∧ (-4000000000 ≤ d % 2 * u + d * v ∧ d % 2 * u + d * v ≤ 4000000000) ∧ (-2000000 ≤ u + d % 2 * v ∧ u + d % 2 * v ≤ 2000000) := by
  have hp := h.par
  have h4 := h.d4; have u1 := h.ub; have v1 := h.vb
  have hd : (d % 2 = 0 ∨ d % 2 = 1) := by omega
  have b1 := mul_bd (a := d) (x := v) (A := 2000) (X := 1000000) (by have := h.d1; omega) (by have := h.d2; omega) (by omega) (by omega)
  obtain ⟨q, hq⟩ : ∃ q, d * v = q := ⟨_, rfl⟩
  rw [hq] at hp b1
  rcases hd with e | e
  · have hm : d = 4 * (d / 4) := by have := Int.mul_ediv_add_emod d 4; omega
    have q2 : q % 2 = 0 := by rw [← hq, Int.mul_emod, e, Int.zero_mul]; rfl
    rw [e, hq, Int.zero_mul u, Int.zero_mul v, Int.zero_add, Int.add_zero u]
    exact ⟨q / 2, u / 2, d / 4, by omega, rfl, by omega, by omega, by omega, by omega, by omega, by omega⟩
  · have hm : d = 4 * (d / 4) + 1 := by have := Int.mul_ediv_add_emod d 4; omega
    rw [e, hq, Int.one_mul, Int.one_mul]
    have q2 : (u + v) % 2 = 0 := by
      have : q % 2 = v % 2 := by rw [← hq, Int.mul_emod, e, Int.one_mul, Int.emod_emod]
      omega
    exact ⟨(u + q) / 2, (u + v) / 2, d / 4, by omega, rfl, by omega, by omega, by omega, by omega, by omega, by omega⟩
set_option maxRecDepth 100000 in
set_option maxHeartbeats 6400000 in
theorem principal_any (d u v a : Int) (h : ElV d u v a) : ∃ e A t : Int, 0 < e ∧ 0 < A ∧ e * e * A = a ∧ (∃ X Y m, d = 4 * m + d % 2 ∧ d % 2 * u + d * v = 2 * X ∧ u + d % 2 * v = 2 * Y ∧ SpEq [(2 * e * A, 0), (e * t, e)] [(u, v), (X, Y)]) ∧
    ∀ w, Calls Tryz.prog 48 #[.int .i64 d, .int .i64 u, .int .i64 v] w fun e1 w' => e1 = .returned (.agg #[.int .i64 e, .int .i64 A, .int .i64 ((-t) % (2 * A))]) ∧ Below w.heap.size w w' := by
  obtain ⟨X, Y, m, hm, hs, hX, hY, bX, bY, bS, bT⟩ := h.gens
  have hX' : d % 2 * u + (4 * m + d % 2) * v = 2 * X := by rw [← hm]; exact hX
  have hn' : u * u - (4 * m + d % 2) * v * v = 4 * a := by rw [← hm]; exact h.nm
  obtain ⟨e, A, t, he, hA, heA, hsp⟩ := prn_ex hs hX' hY h.a0 hn'
  refine ⟨e, A, t, he, hA, heA, ⟨X, Y, m, hm, hX, hY, hsp⟩, fun w => ?_⟩
  have u1 := h.ub; have v1 := h.vb
  have hMod := Lib.hid (fun w => mod_any d 2 w (by omega) (by omega))
  have b1 := mul_bd (a := d) (x := v) (A := 2000) (X := 1000000) (by have := h.d1; omega) (by have := h.d2; omega) (by omega) (by omega)
  have s0 := Int.emod_nonneg d (show (2 : Int) ≠ 0 by omega)
  have s1 := Int.emod_lt_of_pos d (show (0 : Int) < 2 by omega)
  obtain ⟨s, hsd⟩ : ∃ s, d % 2 = s := ⟨_, rfl⟩
  rw [hsd] at hX hY bS bT hMod s0 s1
  have b2 := mul_bd (a := s) (x := u) (A := 1) (X := 1000000) (by omega) (by omega) (by omega) (by omega)
  have b3 := mul_bd (a := s) (x := v) (A := 1) (X := 1000000) (by omega) (by omega) (by omega) (by omega)
  have hE : 2 * e * A ≤ 4000000000000000 := by
    have h1 : e * A ≤ e * (e * A) := by
      have := Int.mul_le_mul_of_nonneg_right (show 1 ≤ e by omega) (Int.le_of_lt (Int.mul_pos he hA))
      omega
    rw [← Int.mul_assoc, heA] at h1
    have := h.ab
    rw [Int.mul_assoc]; omega
  have hMb : X.natAbs * v.natAbs + u.natAbs * Y.natAbs ≤ 2001000000000000 := by
    have a1 := Nat.mul_le_mul (show X.natAbs ≤ 2000000000 by omega) (show v.natAbs ≤ 1000000 by omega)
    have a2 := Nat.mul_le_mul (show u.natAbs ≤ 1000000 by omega) (show Y.natAbs ≤ 1000000 by omega)
    omega
  have hI := Lib.hid (fun vv B w ho => idealOf2_any u v X Y A e t 4000000000000000 2001000000000000 vv B w (by omega) (by omega) hMb (by omega) (by omega) hE hsp hA he ho)
  have w1 : wrap64 (s * u) = s * u := IntWalk.wrap64_in _ (by omega)
  have w2 : wrap64 (d * v) = d * v := IntWalk.wrap64_in _ (by omega)
  have w3 : wrap64 (s * u + d * v) = s * u + d * v := IntWalk.wrap64_in _ (by omega)
  have w4 : (s * u + d * v).tdiv 2 = X := by rw [hX]; exact Int.mul_tdiv_cancel_left _ (by omega)
  have w5 : wrap64 X = X := IntWalk.wrap64_in _ (by omega)
  have w6 : wrap64 (s * v) = s * v := IntWalk.wrap64_in _ (by omega)
  have w7 : wrap64 (u + s * v) = u + s * v := IntWalk.wrap64_in _ (by omega)
  have w8 : (u + s * v).tdiv 2 = Y := by rw [hY]; exact Int.mul_tdiv_cancel_left _ (by omega)
  have w9 : wrap64 Y = Y := IntWalk.wrap64_in _ (by omega)
  clear hX hY bX bY bS bT hX' hn' hsp heA hA he h hMb hE b1 b2 b3 s0 s1 u1 v1 hs hm hsd
  generalize (-t) % (2 * A) = R at *
  go_enter Tryz.func48, Tryz.ntmps48
  go_wp2_with (go_at_call 76; (with_reducible refine (hMod.out _).mono ?_); rintro e v ⟨rfl, rfl⟩)
  refine (hI.out _ _ _ (own_blk2v (Blk.new_at (by simp)))).mono ?_
  rintro e1 v1 ⟨rfl, hB1⟩
  have hZ1 := hB1.size
  (try simp at hZ1)
  have hR1 : Blk v1 w.heap.size 25 #[.int .i64 0, .int .i64 0, .int .i64 0] := Blk.call (by (repeat (first | with_reducible assumption | (with_reducible apply Blk.new_at; (first | rfl | (simp; done))) | with_reducible apply Blk.store3 | with_reducible apply Blk.store4 | (with_reducible apply Blk.farp; (first | omega | (simp <;> omega))) | with_reducible apply Blk.allocp | with_reducible apply Blk.drew | with_reducible apply Blk.drewN))) hB1
  have cR1 := hR1.cell; have fR1 := hR1.frozen; have lR1 := hR1.lt; have mR1 := Nat.ne_of_gt lR1; have nR1 := Nat.ne_of_lt lR1
  have hb1 : Below w.heap.size w v1 := (by repeat (first | with_reducible exact Below.refl _ _ | with_reducible assumption | with_reducible apply Below.drew | with_reducible apply below_drewN | (with_reducible apply below_setp; (first | omega | (simp <;> omega))) | (with_reducible apply below_allocp; (first | omega | (simp <;> omega))) | (with_reducible refine below_viap (by assumption) ?_ ?_; (first | omega | (simp <;> omega)))))
  go_wp2
  exact bodyPost_ret (v := .agg #[.int .i64 e, .int .i64 A, .int .i64 R]) (by simp [results, Tryz.results48, go_sem, *]) rfl ⟨rfl, (by repeat (first | with_reducible exact Below.refl _ _ | with_reducible assumption | with_reducible apply Below.drew | with_reducible apply below_drewN | (with_reducible apply below_setp; (first | omega | (simp <;> omega))) | (with_reducible apply below_allocp; (first | omega | (simp <;> omega))) | (with_reducible refine below_viap (by assumption) ?_ ?_; (first | omega | (simp <;> omega)))))⟩
end

section
open Go.RowKit

theorem infoIdl : (Tryz.prog.info? 25).map (fun i => (i.zero, i.size, i.bytes)) = some (some (.agg #[.int .i64 0, .int .i64 0, .int .i64 0]), 3, 24) := by kernel_rfl
theorem apart_ownZ {w : World} {B B2 n n2 sz sz2 : Nat} {e e2 : TypeId} {v vl : Value} {xs xs2 : List Value} (h : w.ownsRow B e sz v n xs) {w2 : World} (h2 : w2.ownsRow B2 e2 sz2 vl n2 xs2) (hB : w.heap.size ≤ B2) : Apart v vl := by
  unfold Apart
  cases h3 : vl.ownBlock with
  | none => exact .inl rfl
  | some b =>
    right
    intro he
    have k1 := own_ge h2 b h3
    have k2 := own_lt h b he.symm
    omega
theorem cnI_next (d : Int) (n E : Nat) : cnI d n (E + 1) = cnI d n E + if 1 ≤ E ∧ n % (E * E) = 0 then (rdL d ((n / (E * E) : Nat) : Int) (2 * (n / (E * E)))).length else 0 := rfl
theorem sq_bd44 {E n : Nat} (h : E * E ≤ n) (hn : n ≤ 2000) : E ≤ 44 := by
  apply Nat.le_of_not_lt
  intro hl
  have := Nat.mul_le_mul (show 45 ≤ E by omega) (show 45 ≤ E by omega)
  omega
/-- The number of ideals with the norm n, if it is asked for. -/
def CiR (d n c : Int) (ok : Bool) : Prop := (ok = false ∧ c = 0 ∧ ¬ (piB d = true ∧ 1 ≤ n ∧ n ≤ 2000)) ∨ (ok = true ∧ piB d = true ∧ 1 ≤ n ∧ n ≤ 2000 ∧ c = XS (fun k => kroN d k) n.toNat)
theorem ciR_ex (d n : Int) : ∃ c ok, CiR d n c ok := by
  by_cases h : piB d = true ∧ 1 ≤ n ∧ n ≤ 2000
  · exact ⟨_, true, .inr ⟨rfl, h.1, h.2.1, h.2.2, rfl⟩⟩
  · exact ⟨0, false, .inl ⟨rfl, rfl, h⟩⟩
theorem piB_disc {d : Int} (h : piB d = true) : isDisc d = true ∧ (dsp d).2 = 1 := by
  unfold piB at h
  simp only [Bool.and_eq_true, decide_eq_true_eq] at h
  exact h
theorem piB_d {d : Int} (h : piB d = true) : (-2000 ≤ d ∧ d ≤ -3) ∧ d % 4 < 2 := by
  have := (piB_disc h).1
  unfold isDisc at this
  simp only [Bool.and_eq_true, decide_eq_true_eq] at this
  omega
theorem cnI_fin {d : Int} {n E : Nat} (h : piB d = true) (h1 : 1 ≤ n) (h2 : n ≤ 2000) (hE : n < E * E) : (cnI d n E : Int) = XS (fun k => kroN d k) n := by
  obtain ⟨hd, hf⟩ := piB_disc h
  obtain ⟨hb, h4⟩ := piB_d h
  have hs : d % 2 = 0 ∨ d % 2 = 1 := by omega
  obtain ⟨c, hc⟩ : ∃ c, d = d % 2 - 4 * c := ⟨-(d / 4), by omega⟩
  refine cnI_all (s := d % 2) (c := c) hs ?_ (funD_of hd hf) h1 (by omega) hE
  rcases hs with e | e <;> rw [e] at hc ⊢ <;> omega
set_option maxRecDepth 100000 in
set_option maxHeartbeats 12800000 in
theorem implIN_any (d : Int) (n : Nat) (w : World) (hp : piB d = true) (hn1 : 1 ≤ n) (hn2 : n ≤ 2000) : Calls Tryz.prog 36 #[.int .i64 d, .int .i64 n] w (fun e w' => ∃ (L : List Fm) (v : Value), e = .returned (.tuple #[v, .bool true]) ∧ (L.length : Int) = XS (fun k => kroN d k) n ∧ w'.ownsRow w.heap.size 25 3 v L.length (cellsF L) ∧ Below w.heap.size w w') := by
  obtain ⟨i0, hi, hz0, hz1, hz2⟩ := info_parts infoIdl
  obtain ⟨⟨d1, d2⟩, _⟩ := piB_d hp
  have hfin := Lib.hid (fun E hE => cnI_fin (E := E) hp hn1 hn2 hE)
  have hnx := Lib.hid (cnI_next d n)
  have hbd := Lib.hid (cnI_bd d n)
  have hF := Lib.hid (fun w => isFN_any d w)
  rw [hp] at hF
  have k1 : ¬ (n : Int) < 1 := by omega
  have k2 : ¬ (2000 : Int) < (n : Int) := by omega
  have hR := Lib.hid (fun (a : Nat) w h1 h2 => roots_any d (a : Int) w d1 d2 h1 h2)
  unfold RetI at hR
  have c0 : cnI d n 1 = 0 := rfl
  clear hp d1 d2
  generalize XS (fun k => kroN d k) n = C at *
  generalize cnI d n = cn at *
  go_enter Tryz.func36, Tryz.ntmps36
  go_wp2_with (go_at_call 65; (with_reducible refine (hF.out _).mono ?_); rintro e v ⟨rfl, rfl⟩)
  clear hF k1 k2
  go_loopw [6, 7] (fun vl ve wr => ∃ (E : Nat) (P : List Fm), ve = .int .i64 E ∧ 1 ≤ E ∧ E ≤ 45 ∧ Hid (P.length = cn E) ∧ wr.ownsRow w.heap.size 25 3 vl P.length (cellsF P) ∧ Below w.heap.size w wr) (fun _ ve _ => 50 - (intOf ve).toNat)
  case atStart => exact ⟨1, [], rfl, by omega, by omega, Lib.hid c0.symm, own_empty (Nat.le_refl _), (by repeat (first | with_reducible exact Below.refl _ _ | with_reducible assumption | with_reducible apply Below.drew | with_reducible apply below_drewN | (with_reducible apply below_setp; (first | omega | (simp <;> omega))) | (with_reducible apply below_allocp; (first | omega | (simp <;> omega))) | (with_reducible refine below_viap (by assumption) ?_ ?_; (first | omega | (simp <;> omega)))))⟩
  case round =>
    obtain ⟨E, P, rfl, hE1, hE2, hPl, hown, hbel⟩ := hrel
    have hz := hbel.size
    obtain ⟨Q, hQ⟩ : ∃ Q : Nat, E * E = Q := ⟨_, rfl⟩
    have hQi : (E : Int) * E = (Q : Int) := by rw [← hQ]; simp
    have hQ1 : 1 ≤ Q := by rw [← hQ]; exact Nat.mul_le_mul hE1 hE1
    have hQ2 : Q ≤ 2025 := by rw [← hQ]; exact Nat.mul_le_mul hE2 hE2
    have HW := Lib.hid (show wrap64 ((E : Int) * E) = (Q : Int) by rw [hQi]; exact IntWalk.wrap64_in _ (by omega))
    have HN := Lib.hid (hnx.out E)
    rw [hQ] at HN
    by_cases hle : Q ≤ n
    · have hle' : (Q : Int) ≤ (n : Int) := by omega
      have HE44 := Lib.hid (sq_bd44 (E := E) (n := n) (by omega) hn2)
      obtain ⟨m, hm⟩ : ∃ m : Int, (n : Int) = m := ⟨_, rfl⟩
      obtain ⟨QI, hQI⟩ : ∃ q : Int, (Q : Int) = q := ⟨_, rfl⟩
      have t0 : m.tmod QI = ((n % Q : Nat) : Int) := by rw [← hm, ← hQI]; rfl
      have q0 : m.tdiv QI = ((n / Q : Nat) : Int) := by rw [← hm, ← hQI]; rfl
      have z0 : ¬ QI = 0 := by omega
      have z1 : (QI == 0) = false := beq_eq_false_iff_ne.2 z0
      have hqn : n / Q ≤ n := Nat.div_le_self _ _
      have hE44 := HE44.out
      by_cases hr : n % Q = 0
      · have hr' : (m.tmod QI != 0) = false := by rw [t0, hr]; rfl
        have hqp : 1 ≤ n / Q := Nat.div_pos hle hQ1
        have HN2 : Hid (cn (E + 1) = cn E + (rdL d ((n / Q : Nat) : Int) (2 * (n / Q))).length) := Lib.hid (by rw [HN.out, if_pos ⟨hE1, hr⟩])
        have HRo := Lib.hid (fun w => hR.out (n / Q) w (by omega) (by omega))
        rw [show (2 * ((n / Q : Nat) : Int)).toNat = 2 * (n / Q) by omega] at HRo
        have hlb := rdL_len d ((n / Q : Nat) : Int) (2 * (n / Q))
        generalize rdL d ((n / Q : Nat) : Int) (2 * (n / Q)) = R at *
        obtain ⟨A, hA⟩ : ∃ A : Int, ((n / Q : Nat) : Int) = A := ⟨_, rfl⟩
        rw [hA] at q0 HRo
        have HAw := Lib.hid (show wrap64 A = A from IntWalk.wrap64_in _ (by omega))
        have hRb : Hid (R.length ≤ 4000) := Lib.hid (by omega)
        have hPb : Hid (P.length ≤ 4000 * 45) := Lib.hid (by
          rw [hPl.out]
          have h1 := hbd.out E
          have h2 : 2 * n * E ≤ 4000 * 45 := Nat.mul_le_mul (by omega) hE2
          omega)
        clear hr HN t0 hA hlb hqp hqn hQ
        obtain ⟨EI, hEI⟩ : ∃ q : Int, (E : Int) = q := ⟨_, rfl⟩
        have HEI := Lib.hid hEI
        have Hm := Lib.hid hm
        have HQI := Lib.hid hQI
        rw [hEI, hQI] at HW
        rw [hQI] at hle'
        rw [hm] at hle' ⊢
        rw [hEI]
        clear hEI hm hQI hQi
        have hw := HW.out; have hAw := HAw.out
        go_wp2_with (go_at_call 74; refine (HRo.out _).mono ?_; rintro e v1 ⟨vr, rfl, hor, hB1⟩; have hZ1 := hB1.size; (try simp at hZ1); obtain ⟨br, cr, rfl⟩ := own_shape hor)
        have hb1 : Below w.heap.size w v1 := (by repeat (first | with_reducible exact Below.refl _ _ | with_reducible assumption | with_reducible apply Below.drew | with_reducible apply below_drewN | (with_reducible apply below_setp; (first | omega | (simp <;> omega))) | (with_reducible apply below_allocp; (first | omega | (simp <;> omega))) | (with_reducible refine below_viap (by assumption) ?_ ?_; (first | omega | (simp <;> omega)))))
        have ho1 := own_call hB1 hown
        have hap1 := apart_ownZ hown hor (Nat.le_refl _)
        have hor1 : v1.ownsRow w.heap.size 3 1 (.slice br R.length cr) R.length (cellsI R) := own_base (by omega) hor
        clear hown hor hB1 HRo hw hAw q0 z0 z1 hr' hbel
        go_loopw [6, 46] (fun vl vj wr => ∃ (j : Nat) (K : List Fm), vj = .int .i64 j ∧ j ≤ R.length ∧ Hid (K.length = P.length + j) ∧ wr.ownsRow w.heap.size 25 3 vl K.length (cellsF K) ∧ wr.ownsRow w.heap.size 3 1 (.slice br R.length cr) R.length (cellsI R) ∧ Apart vl (.slice br R.length cr) ∧ Below w.heap.size w wr) (fun _ vj _ => R.length - (intOf vj).toNat)
        case atStart => exact ⟨0, P, rfl, Nat.zero_le _, Lib.hid rfl, ho1, hor1, hap1, hb1⟩
        case round =>
          clear ho1 hor1 hap1 hb1 hZ1 hz
          obtain ⟨j, K, rfl, hj, hKl, hown, hor, hap, hbel⟩ := hrel
          have hz := hbel.size
          by_cases hjt : j < R.length
          · obtain ⟨g, rfl, lg, c1⟩ := own_elemI hor hjt
            have ng : ¬ g = wr.heap.size := by omega
            have hKL := hKl.out; have hPL := hPb.out; have hRL := hRb.out
            generalize R[j] = x at *
            have m1 : K.length + 1 ≤ maxLen := by unfold maxLen; omega
            have m2 : (K.length + 1) * 24 ≤ 140737488355328 := by omega
            have HKn : Hid ((K ++ [(⟨EI, A, x⟩ : Fm)]).length = P.length + (j + 1)) := Lib.hid (by rw [List.length_append]; simp; omega)
            have jb : j ≤ 4000 := by omega
            clear hKL hPL hRL
            go_wp2_with (at_builtin; refine wpList_append_own_at _ rfl (.tmp 50) (.tmp 55) 63 rfl w.heap.size 25 i0 _ 3 24 Tryz.underlying63 hi hz0 hz1 hz2 rfl (by decide) u6 K.length (cellsF K) rfl ?_ ⟨wr.heap.size, 0, none⟩ 1 1 [.int .i64 EI, .int .i64 A, .int .i64 x] rfl rfl ?_ (one3 _ _ _) ?_ ?_ ?_ ?_; exact own_alloc hown; exact cells3 (Blk.new_at (by simp)); exact m1; exact m2; (simp <;> omega); intro x9 w9 hown9 hg9 _ hloc9)
            have hb9 : Below w.heap.size w w9 := below_grown (own_ge hown) (by simp <;> omega) hg9 (by repeat (first | with_reducible exact Below.refl _ _ | with_reducible assumption | with_reducible apply Below.drew | with_reducible apply below_drewN | (with_reducible apply below_setp; (first | omega | (simp <;> omega))) | (with_reducible apply below_allocp; (first | omega | (simp <;> omega))) | (with_reducible refine below_viap (by assumption) ?_ ?_; (first | omega | (simp <;> omega)))))
            have ho9 := own_snoc (f := ⟨EI, A, x⟩) rfl hown9
            have hr8 := own_alloc (o := .cells #[.int .i64 EI, .int .i64 A, .int .i64 x] 25) hor
            have hr9 := hr8.kept hg9 hap
            have ap9 := apart_next hap hr8 (Nat.le_refl _) hloc9
            clear hg9 hown9 hown hor hr8 hloc9 hap m1 m2
            go_wp2
            go_roundw
            case rel => exact ⟨j + 1, _, by go_num, hjt, HKn, ho9, hr9, ap9, hb9⟩
            case measure => (first | (simp [intOf]; done) | (simp [intOf]; omega))
          · have hjR : j = R.length := by omega
            have HL2 : Hid (K.length = cn (E + 1)) := Lib.hid (by rw [hKl.out, hPl.out, HN2.out, hjR])
            have hjn : ¬ (j : Int) < (R.length : Int) := by omega
            have HwE := Lib.hid (show wrap64 (EI + 1) = EI + 1 from IntWalk.wrap64_in _ (by have := HEI.out; omega))
            clear hKl hap hor hjR
            have hwE := HwE.out
            go_wp2
            clear hwE
            go_roundw
            case rel => exact ⟨E + 1, K, by rw [HwE.out, Int.natCast_add, HEI.out]; rfl, by omega, by omega, HL2, hown, hbel⟩
            case measure => (have := HEI.out; simp [intOf, HwE.out]; omega)
      · have hr' : (m.tmod QI != 0) = true := by rw [t0, bne_iff_ne]; omega
        have HN2 : Hid (cn (E + 1) = cn E) := Lib.hid (by rw [HN.out, if_neg (fun h => hr h.2)]; rfl)
        clear hr HN t0 q0 hqn hQ
        have HL2 : Hid (P.length = cn (E + 1)) := Lib.hid (by rw [HN2.out]; exact hPl.out)
        obtain ⟨EI, hEI⟩ : ∃ q : Int, (E : Int) = q := ⟨_, rfl⟩
        have HEI := Lib.hid hEI
        rw [hEI, hQI] at HW
        rw [hQI] at hle'
        rw [hm] at hle' ⊢
        have HwE := Lib.hid (show wrap64 (EI + 1) = EI + 1 from IntWalk.wrap64_in _ (by omega))
        rw [hEI]
        have Hm := Lib.hid hm
        clear hEI hm hQI hQi
        have hw := HW.out; have hwE := HwE.out
        go_wp2
        clear hw hwE
        go_roundw
        case rel => exact ⟨E + 1, P, by rw [HwE.out, Int.natCast_add, HEI.out]; rfl, by omega, by omega, HL2, hown, hbel⟩
        case measure => (have := HEI.out; simp [intOf, HwE.out]; omega)
    · have hC := Lib.hid (hfin.out E (by omega))
      rw [← hPl.out] at hC
      obtain ⟨EI, hEI⟩ : ∃ q : Int, (E : Int) = q := ⟨_, rfl⟩
      obtain ⟨m, hm⟩ : ∃ m : Int, (n : Int) = m := ⟨_, rfl⟩
      obtain ⟨QI, hQI⟩ : ∃ q : Int, (Q : Int) = q := ⟨_, rfl⟩
      have hle' : ¬ QI ≤ m := by omega
      rw [hEI, hQI] at HW
      rw [hEI, hm]
      clear HN hPl hQi hQ hQ1 hQ2 hle hnx hbd hfin hR hE1 hE2 hEI hm hQI c0
      have hw := HW.out
      go_wp2
      go_ret2
      exact ⟨P, _, rfl, hC.out, hown, hbel⟩
set_option maxRecDepth 100000 in
set_option maxHeartbeats 12800000 in
theorem specPA_any (d : Int) (n : Nat) (w : World) (hp : piB d = true) (hn1 : 1 ≤ n) (hn2 : n ≤ 2000) : Calls Tryz.prog 39 #[.int .i64 d, .int .i64 n] w (fun e w' => ∃ (L : List Fm) (v : Value), e = .returned v ∧ (L.length : Int) = XS (fun k => kroN d k) n ∧ w'.ownsRow w.heap.size 25 3 v L.length (cellsF L) ∧ Below w.heap.size w w') := by
  obtain ⟨i0, hi, hz0, hz1, hz2⟩ := info_parts infoIdl
  obtain ⟨⟨d1, d2⟩, _⟩ := piB_d hp
  have hfin := Lib.hid (fun E hE => cnI_fin (E := E) hp hn1 hn2 hE)
  have hnx := Lib.hid (cnI_next d n)
  have hbd := Lib.hid (cnI_bd d n)
  have hD := Lib.hid (show -2000 ≤ d ∧ d ≤ -3 from ⟨d1, d2⟩)
  have hrx := Lib.hid (fun A k => rdL_next d A k)
  have hrl := Lib.hid (fun A k => rdL_len d A k)
  have c0 : cnI d n 1 = 0 := rfl
  clear hp d1 d2
  generalize XS (fun k => kroN d k) n = C at *
  generalize cnI d n = cn at *
  go_enter Tryz.func39, Tryz.ntmps39
  go_wp2
  go_loopw [5, 6] (fun vl ve wr => ∃ (E : Nat) (P : List Fm), ve = .int .i64 E ∧ 1 ≤ E ∧ E ≤ 45 ∧ Hid (P.length = cn E) ∧ wr.ownsRow w.heap.size 25 3 vl P.length (cellsF P) ∧ Below w.heap.size w wr) (fun _ ve _ => 50 - (intOf ve).toNat)
  case atStart => exact ⟨1, [], rfl, by omega, by omega, Lib.hid c0.symm, ⟨rfl, .inl ⟨rfl, rfl⟩⟩, (by repeat (first | with_reducible exact Below.refl _ _ | with_reducible assumption | with_reducible apply Below.drew | with_reducible apply below_drewN | (with_reducible apply below_setp; (first | omega | (simp <;> omega))) | (with_reducible apply below_allocp; (first | omega | (simp <;> omega))) | (with_reducible refine below_viap (by assumption) ?_ ?_; (first | omega | (simp <;> omega)))))⟩
  case round =>
    obtain ⟨E, P, rfl, hE1, hE2, hPl, hown, hbel⟩ := hrel
    have hz := hbel.size
    obtain ⟨Q, hQ⟩ : ∃ Q : Nat, E * E = Q := ⟨_, rfl⟩
    have hQi : (E : Int) * E = (Q : Int) := by rw [← hQ]; simp
    have hQ1 : 1 ≤ Q := by rw [← hQ]; exact Nat.mul_le_mul hE1 hE1
    have hQ2 : Q ≤ 2025 := by rw [← hQ]; exact Nat.mul_le_mul hE2 hE2
    have HW := Lib.hid (show wrap64 ((E : Int) * E) = (Q : Int) by rw [hQi]; exact IntWalk.wrap64_in _ (by omega))
    have HN := Lib.hid (hnx.out E)
    rw [hQ] at HN
    by_cases hle : Q ≤ n
    · have hle' : (Q : Int) ≤ (n : Int) := by omega
      have HE44 := Lib.hid (sq_bd44 (E := E) (n := n) (by omega) hn2)
      obtain ⟨m, hm⟩ : ∃ m : Int, (n : Int) = m := ⟨_, rfl⟩
      obtain ⟨QI, hQI⟩ : ∃ q : Int, (Q : Int) = q := ⟨_, rfl⟩
      have t0 : m.tmod QI = ((n % Q : Nat) : Int) := by rw [← hm, ← hQI]; rfl
      have q0 : m.tdiv QI = ((n / Q : Nat) : Int) := by rw [← hm, ← hQI]; rfl
      have z0 : ¬ QI = 0 := by omega
      have z1 : (QI == 0) = false := beq_eq_false_iff_ne.2 z0
      have hqn : n / Q ≤ n := Nat.div_le_self _ _
      have hE44 := HE44.out
      by_cases hr : n % Q = 0
      · have hr' : (m.tmod QI != 0) = false := by rw [t0, hr]; rfl
        have hqp : 1 ≤ n / Q := Nat.div_pos hle hQ1
        have HN2 : Hid (cn (E + 1) = cn E + (rdL d ((n / Q : Nat) : Int) (2 * (n / Q))).length) := Lib.hid (by rw [HN.out, if_pos ⟨hE1, hr⟩])
        obtain ⟨A, hA⟩ : ∃ A : Int, ((n / Q : Nat) : Int) = A := ⟨_, rfl⟩
        obtain ⟨M, hM⟩ : ∃ M : Nat, 2 * (n / Q) = M := ⟨_, rfl⟩
        have hMA : 2 * A = (M : Int) := by omega
        have HMA := Lib.hid hMA
        rw [hA] at q0 HN2
        rw [hM] at HN2
        have A1 : 1 ≤ A := by omega
        have A2 : A ≤ 2000 := by omega
        have HAw := Lib.hid (show wrap64 A = A from IntWalk.wrap64_in _ (by omega))
        have hPb : Hid (P.length ≤ 4000 * 45) := Lib.hid (by
          rw [hPl.out]
          have h1 := hbd.out E
          have h2 : 2 * n * E ≤ 4000 * 45 := Nat.mul_le_mul (by omega) hE2
          omega)
        have hM4 : M ≤ 4000 := by omega
        clear hr HN t0 hA hqp hqn hQ hM hMA
        obtain ⟨EI, hEI⟩ : ∃ q : Int, (E : Int) = q := ⟨_, rfl⟩
        have HEI := Lib.hid hEI
        have Hm := Lib.hid hm
        have HQI := Lib.hid hQI
        rw [hEI, hQI] at HW
        rw [hQI] at hle'
        rw [hm] at hle' ⊢
        rw [hEI]
        clear hEI hm hQI hQi
        have hw := HW.out; have hAw := HAw.out
        go_wp2
        clear hw hAw q0 z0 z1 hr'
        obtain ⟨wo, rfl⟩ : ∃ wo : World, wo = wr := ⟨_, rfl⟩
        go_loopw [5, 8] (fun vl vj wr => ∃ (j : Nat) (K : List Fm), vj = .int .i64 j ∧ j ≤ M ∧ Hid (K.length = P.length + (rdL d A j).length) ∧ wr.ownsRow w.heap.size 25 3 vl K.length (cellsF K) ∧ Below w.heap.size w wr) (fun _ vj _ => M - (intOf vj).toNat)
        case atStart => exact ⟨0, P, rfl, Nat.zero_le _, Lib.hid rfl, hown, hbel⟩
        case round =>
          clear hown hbel hz
          obtain ⟨j, K, rfl, hj, hKl, hown, hbel⟩ := hrel
          have hz := hbel.size
          obtain ⟨dd1, dd2⟩ := hD.out
          have hkk : 0 ≤ (j : Int) * j ∧ (j : Int) * j ≤ 5000 * 5000 := ⟨Int.mul_nonneg (by omega) (by omega), Int.mul_le_mul (by omega) (by omega) (by omega) (by omega)⟩
          have htm : ((j : Int) * j - d).tmod (4 * A) = ((j : Int) * j - d) % (4 * A) := Int.tmod_eq_emod_of_nonneg (by omega)
          have n4 : ¬ 4 * A = 0 := by omega
          have n5 : (4 * A == 0) = false := by rw [beq_eq_false_iff_ne]; exact n4
          by_cases hjt : j < M
          · have hlx : (j : Int) < 2 * A := by have := HMA.out; omega
            have hKL : K.length ≤ 200000 := by have h1 := hKl.out; have h2 := hPb.out; have h3 := hrl.out A j; omega
            have hnxj := hrx.out A j
            by_cases hd : ((j : Int) * j - d) % (4 * A) = 0
            · have e7 : (((j : Int) * j - d) % (4 * A) == 0) = true := by rw [beq_iff_eq]; exact hd
              have m1 : K.length + 1 ≤ maxLen := by unfold maxLen; omega
              have m2 : (K.length + 1) * 24 ≤ 140737488355328 := by omega
              have HKn : Hid ((K ++ [(⟨EI, A, (j : Int)⟩ : Fm)]).length = P.length + (rdL d A (j + 1)).length) := Lib.hid (by rw [hnxj, List.length_append, List.length_append, hKl.out]; simp [rdP, hd]; omega)
              clear hd hnxj hKL
              go_wp2_with (at_builtin; refine wpList_append_own_at _ rfl (.tmp 42) (.tmp 47) 63 rfl w.heap.size 25 i0 _ 3 24 Tryz.underlying63 hi hz0 hz1 hz2 rfl (by decide) u5 K.length (cellsF K) rfl ?_ ⟨wr.heap.size, 0, none⟩ 1 1 [.int .i64 EI, .int .i64 A, .int .i64 j] rfl rfl ?_ (one3 _ _ _) ?_ ?_ ?_ ?_; exact own_alloc hown; exact cells3 (Blk.new_at (by simp)); exact m1; exact m2; (simp <;> omega); intro x9 w9 hown9 hg9 _ hloc9)
              have hb9 : Below w.heap.size w w9 := below_grown (own_ge hown) (by simp <;> omega) hg9 (by repeat (first | with_reducible exact Below.refl _ _ | with_reducible assumption | with_reducible apply Below.drew | with_reducible apply below_drewN | (with_reducible apply below_setp; (first | omega | (simp <;> omega))) | (with_reducible apply below_allocp; (first | omega | (simp <;> omega))) | (with_reducible refine below_viap (by assumption) ?_ ?_; (first | omega | (simp <;> omega)))))
              have ho9 := own_snoc (f := ⟨EI, A, (j : Int)⟩) rfl hown9
              clear hg9 hown9 hown hloc9 m1 m2
              go_wp2
              go_roundw
              case rel => exact ⟨j + 1, _, by go_num, hjt, HKn, ho9, hb9⟩
              case measure => (first | (simp [intOf]; done) | (simp [intOf]; omega))
            · have e7 : (((j : Int) * j - d) % (4 * A) == 0) = false := by rw [beq_eq_false_iff_ne]; exact hd
              have HKn : Hid (K.length = P.length + (rdL d A (j + 1)).length) := Lib.hid (by rw [hnxj, List.length_append, hKl.out]; simp [rdP, hd])
              clear hd hnxj hKL
              go_wp2
              go_roundw
              case rel => exact ⟨j + 1, K, by go_num, hjt, HKn, hown, hbel⟩
              case measure => (first | (simp [intOf]; done) | (simp [intOf]; omega))
          · have hjR : j = M := by omega
            have HL2 : Hid (K.length = cn (E + 1)) := Lib.hid (by rw [hKl.out, hPl.out, HN2.out, hjR])
            have hlx : ¬ (j : Int) < 2 * A := by have := HMA.out; omega
            have HwE := Lib.hid (show wrap64 (EI + 1) = EI + 1 from IntWalk.wrap64_in _ (by have := HEI.out; omega))
            clear hKl hjR htm
            have hwE := HwE.out
            go_wp2
            clear hwE
            go_roundw
            case rel => exact ⟨E + 1, K, by rw [HwE.out, Int.natCast_add, HEI.out]; rfl, by omega, by omega, HL2, hown, hbel⟩
            case measure => (have := HEI.out; simp [intOf, HwE.out]; omega)
      · have hr' : (m.tmod QI != 0) = true := by rw [t0, bne_iff_ne]; omega
        have HN2 : Hid (cn (E + 1) = cn E) := Lib.hid (by rw [HN.out, if_neg (fun h => hr h.2)]; rfl)
        clear hr HN t0 q0 hqn hQ
        have HL2 : Hid (P.length = cn (E + 1)) := Lib.hid (by rw [HN2.out]; exact hPl.out)
        obtain ⟨EI, hEI⟩ : ∃ q : Int, (E : Int) = q := ⟨_, rfl⟩
        have HEI := Lib.hid hEI
        rw [hEI, hQI] at HW
        rw [hQI] at hle'
        rw [hm] at hle' ⊢
        have HwE := Lib.hid (show wrap64 (EI + 1) = EI + 1 from IntWalk.wrap64_in _ (by omega))
        rw [hEI]
        have Hm := Lib.hid hm
        clear hEI hm hQI hQi
        have hw := HW.out; have hwE := HwE.out
        go_wp2
        clear hw hwE
        go_roundw
        case rel => exact ⟨E + 1, P, by rw [HwE.out, Int.natCast_add, HEI.out]; rfl, by omega, by omega, HL2, hown, hbel⟩
        case measure => (have := HEI.out; simp [intOf, HwE.out]; omega)
    · have hC := Lib.hid (hfin.out E (by omega))
      rw [← hPl.out] at hC
      obtain ⟨EI, hEI⟩ : ∃ q : Int, (E : Int) = q := ⟨_, rfl⟩
      obtain ⟨m, hm⟩ : ∃ m : Int, (n : Int) = m := ⟨_, rfl⟩
      obtain ⟨QI, hQI⟩ : ∃ q : Int, (Q : Int) = q := ⟨_, rfl⟩
      have hle' : ¬ QI ≤ m := by omega
      rw [hEI, hQI] at HW
      rw [hEI, hm]
      clear HN hPl hQi hQ hQ1 hQ2 hle hnx hbd hfin hE1 hE2 hEI hm hQI c0
      have hw := HW.out
      go_wp2
      go_ret
      exact ⟨P, _, rfl, hC.out, hown, hbel⟩
set_option maxHeartbeats 1600000 in
theorem implIN_no (d n : Int) (w : World) (h : ¬ (piB d = true ∧ 1 ≤ n ∧ n ≤ 2000)) : Calls Tryz.prog 36 #[.int .i64 d, .int .i64 n] w (fun e w' => ∃ (v : Value), e = .returned (.tuple #[v, .bool false]) ∧ w'.ownsRow w.heap.size 25 3 v 0 [] ∧ Below w.heap.size w w') := by
  have hF := Lib.hid (fun w => isFN_any d w)
  cases hp : piB d with
  | false =>
    rw [hp] at hF
    clear h hp
    go_enter Tryz.func36, Tryz.ntmps36
    go_wp2_with (go_at_call 65; (with_reducible refine (hF.out _).mono ?_); rintro e v ⟨rfl, rfl⟩)
    go_ret2
    exact ⟨_, rfl, own_empty (Nat.le_refl _), (by repeat (first | with_reducible exact Below.refl _ _ | with_reducible assumption | with_reducible apply Below.drew | with_reducible apply below_drewN | (with_reducible apply below_setp; (first | omega | (simp <;> omega))) | (with_reducible apply below_allocp; (first | omega | (simp <;> omega))) | (with_reducible refine below_viap (by assumption) ?_ ?_; (first | omega | (simp <;> omega)))))⟩
  | true =>
    rw [hp] at hF h
    by_cases h1 : n < 1
    · clear h hp
      go_enter Tryz.func36, Tryz.ntmps36
      go_wp2_with (go_at_call 65; (with_reducible refine (hF.out _).mono ?_); rintro e v ⟨rfl, rfl⟩)
      go_ret2
      exact ⟨_, rfl, own_empty (Nat.le_refl _), (by repeat (first | with_reducible exact Below.refl _ _ | with_reducible assumption | with_reducible apply Below.drew | with_reducible apply below_drewN | (with_reducible apply below_setp; (first | omega | (simp <;> omega))) | (with_reducible apply below_allocp; (first | omega | (simp <;> omega))) | (with_reducible refine below_viap (by assumption) ?_ ?_; (first | omega | (simp <;> omega)))))⟩
    · have h2 : 2000 < n := Int.not_le.1 (fun q => h ⟨rfl, by omega, q⟩)
      clear h hp
      go_enter Tryz.func36, Tryz.ntmps36
      go_wp2_with (go_at_call 65; (with_reducible refine (hF.out _).mono ?_); rintro e v ⟨rfl, rfl⟩)
      go_ret2
      exact ⟨_, rfl, own_empty (Nat.le_refl _), (by repeat (first | with_reducible exact Below.refl _ _ | with_reducible assumption | with_reducible apply Below.drew | with_reducible apply below_drewN | (with_reducible apply below_setp; (first | omega | (simp <;> omega))) | (with_reducible apply below_allocp; (first | omega | (simp <;> omega))) | (with_reducible refine below_viap (by assumption) ?_ ?_; (first | omega | (simp <;> omega)))))⟩
set_option maxHeartbeats 1600000 in
theorem implCI_R {d n c : Int} {ok : Bool} (w : World) (h : CiR d n c ok) : Calls Tryz.prog 11 #[.int .i64 d, .int .i64 n] w fun e w' => e = .returned (.tuple #[.int .i64 c, .bool ok]) ∧ Below w.heap.size w w' := by
  rcases h with ⟨rfl, rfl, h⟩ | ⟨rfl, hp, h1, h2, rfl⟩
  · have hN := Lib.hid (fun w => implIN_no d n w h)
    clear h
    go_enter Tryz.func11, Tryz.ntmps11
    go_wp2_with fail
    refine (hN.out _).mono ?_
    rintro e v1 ⟨v, rfl, ho, hb⟩
    obtain ⟨b, c, rfl⟩ := own_shape ho
    go_wp2
    go_ret2
    exact ⟨rfl, hb⟩
  · obtain ⟨m, rfl⟩ : ∃ m : Nat, n = m := ⟨n.toNat, by omega⟩
    have hN := Lib.hid (fun w => implIN_any d m w hp (by omega) (by omega))
    rw [Int.toNat_natCast]
    clear hp h1 h2
    generalize XS (fun k => kroN d k) m = C at *
    go_enter Tryz.func11, Tryz.ntmps11
    go_wp2_with fail
    refine (hN.out _).mono ?_
    rintro e v1 ⟨L, v, rfl, hL, ho, hb⟩
    obtain ⟨b, c, rfl⟩ := own_shape ho
    subst hL
    go_wp2
    go_ret2
    exact ⟨rfl, hb⟩
set_option maxHeartbeats 1600000 in
theorem specCI_R {d n c : Int} {ok : Bool} (w : World) (hd : DrawnE d) (h : CiR d n c ok) : Calls Tryz.prog 12 #[.int .i64 d, .int .i64 n] w fun e w' => e = .returned (.tuple #[.int .i64 c, .bool ok]) ∧ Below w.heap.size w w' := by
  have hF := Lib.hid (fun w => piDisc_any d w hd)
  have hI := Lib.hid (fun w => l1In_any n 1 2000 w)
  clear hd
  rcases h with ⟨rfl, rfl, h⟩ | ⟨rfl, hp, h1, h2, rfl⟩
  · cases hp : piB d with
    | false =>
      rw [hp] at hF
      clear h hp
      go_enter Tryz.func12, Tryz.ntmps12
      go_wp2_with (go_at_call 37; (with_reducible refine (hF.out _).mono ?_); rintro e v ⟨rfl, rfl⟩)
      go_ret2
      exact ⟨rfl, (by repeat (first | with_reducible exact Below.refl _ _ | with_reducible assumption | with_reducible apply Below.drew | with_reducible apply below_drewN | (with_reducible apply below_setp; (first | omega | (simp <;> omega))) | (with_reducible apply below_allocp; (first | omega | (simp <;> omega))) | (with_reducible refine below_viap (by assumption) ?_ ?_; (first | omega | (simp <;> omega)))))⟩
    | true =>
      rw [hp] at hF h
      have hq : ¬ (1 ≤ n ∧ n ≤ 2000) := fun q => h ⟨rfl, q⟩
      rw [show (decide (1 ≤ n) && decide (n ≤ 2000)) = false by simp; omega] at hI
      clear h hp hq
      go_enter Tryz.func12, Tryz.ntmps12
      go_wp2_with (first | (go_at_call 37; (with_reducible refine (hF.out _).mono ?_); rintro e v ⟨rfl, rfl⟩) | (go_at_call 38; (with_reducible refine (hI.out _).mono ?_); rintro e v ⟨rfl, rfl⟩))
      go_ret2
      exact ⟨rfl, (by repeat (first | with_reducible exact Below.refl _ _ | with_reducible assumption | with_reducible apply Below.drew | with_reducible apply below_drewN | (with_reducible apply below_setp; (first | omega | (simp <;> omega))) | (with_reducible apply below_allocp; (first | omega | (simp <;> omega))) | (with_reducible refine below_viap (by assumption) ?_ ?_; (first | omega | (simp <;> omega)))))⟩
  · obtain ⟨m, rfl⟩ : ∃ m : Nat, n = m := ⟨n.toNat, by omega⟩
    have hN := Lib.hid (fun w => specPA_any d m w hp (by omega) (by omega))
    rw [hp] at hF
    rw [show (decide ((1 : Int) ≤ (m : Int)) && decide ((m : Int) ≤ 2000)) = true by simp; omega] at hI
    rw [Int.toNat_natCast]
    clear hp h1 h2
    generalize XS (fun k => kroN d k) m = C at *
    go_enter Tryz.func12, Tryz.ntmps12
    go_wp2_with (first | (go_at_call 37; (with_reducible refine (hF.out _).mono ?_); rintro e v ⟨rfl, rfl⟩) | (go_at_call 38; (with_reducible refine (hI.out _).mono ?_); rintro e v ⟨rfl, rfl⟩))
    refine (hN.out _).mono ?_
    rintro e v1 ⟨L, v, rfl, hL, ho, hb⟩
    obtain ⟨b, c, rfl⟩ := own_shape ho
    subst hL
    go_wp2
    go_ret2
    exact ⟨rfl, hb⟩
end
end Go.Proofs.YtohgccgbbipjjaaGreat
