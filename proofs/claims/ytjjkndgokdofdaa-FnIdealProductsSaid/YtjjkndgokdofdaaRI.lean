/- Contract: the normal basis of a list of vectors, of the program. -/
import Derived.Test.YtjjkndgokdofdaaRH
import Derived.Test.YtjjkndgokdofdaaRB
import Derived.Test.YtjjkndgokdofdaaEP
import Derived.Deep.DeepCutAuto
namespace Go.Proofs.Ytjjkndgokdofdaa
open Go.RowKit

theorem hm_red {a x y : Int} (_ : 0 < a) : SpEq [(a, 0), (x % a, y)] [(a, 0), (x, y)] := by
  have h := SpEq.red (-(x / a)) a x y
  have e : x + -(x / a) * a = x % a := by
    have := Int.mul_ediv_add_emod x a
    rw [Int.neg_mul, Int.mul_comm]; omega
  rw [e] at h
  exact h
theorem hm_step {a b d x y q : Int} (ha : 0 < a) : SpEq [(a, 0), (x, y), ((b - q * x) % a, d - q * y)] [(a, 0), (b, d), (x, y)] := by
  have h1 : SpEq [(a, 0), ((b - q * x) % a, d - q * y)] [(a, 0), (b - q * x, d - q * y)] := hm_red ha
  have h2 : SpEq ([(a, 0), ((b - q * x) % a, d - q * y)] ++ [(x, y)]) ([(a, 0), (b - q * x, d - q * y)] ++ [(x, y)]) := h1.app (SpEq.refl _)
  have h3 : SpEq ([(a, 0)] ++ [(x, y), (b - q * x, d - q * y)]) ([(a, 0)] ++ [(b, d), (x, y)]) := (SpEq.refl _).app (SpEq.step q b d x y)
  have p : ∀ z : Int × Int, SpEq [(a, 0), (x, y), z] ([(a, 0), z] ++ [(x, y)]) := fun z => SpEq.perm fun t => by
    simp only [List.cons_append, List.nil_append, List.mem_cons, List.not_mem_nil, or_false]
    exact ⟨fun h => by rcases h with h | h | h <;> simp [h], fun h => by rcases h with h | h | h <;> simp [h]⟩
  exact (p _).trans (h2.trans ((p _).symm.trans h3))
theorem hm_gcd {a b d x : Int} (ha : 0 < a) : SpEq [((Int.gcd a x : Int), 0), (b % (Int.gcd a x : Int), d)] [(a, 0), (b, d), (x, 0)] := by
  have hg : 0 < (Int.gcd a x : Int) := by
    have := Int.gcd_pos_of_ne_zero_left x (show a ≠ 0 by omega)
    omega
  have h1 : SpEq ([((Int.gcd a x : Int), 0)] ++ [(b, d)]) ([(a, 0), (x, 0)] ++ [(b, d)]) := (SpEq.gcd a x).app (SpEq.refl _)
  refine (hm_red hg).trans (h1.trans (SpEq.perm fun t => ?_))
  simp only [List.cons_append, List.nil_append, List.mem_cons, List.not_mem_nil, or_false]
  exact ⟨fun h => by rcases h with h | h | h <;> simp [h], fun h => by rcases h with h | h | h <;> simp [h]⟩
theorem emod_of {a b u : Int} (h0 : 0 ≤ b) (h1 : b < a) (hd : a ∣ u - b) : b = u % a := by
  obtain ⟨t, ht⟩ := hd
  have e : u = b + a * t := by omega
  rw [e, Int.add_mul_emod_self_left, Int.emod_eq_of_lt h0 h1]
theorem hm_end {L : List (Int × Int)} {a b dd N u e : Int} (h : SpEq [(a, 0), (b, dd)] L) (hn : SpEq [(N, 0), (u, e)] L) (ha : 0 < a) (hb : 0 ≤ b ∧ b < a) (hN : 0 < N) (he : 0 < e) :
    dd ≠ 0 ∧ (0 < dd → N = a ∧ e = dd ∧ b = u % N) ∧ (dd < 0 → N = a ∧ e = -dd ∧ (-b) % a = u % N) := by
  have hs := hn.trans h.symm
  refine ⟨fun h0 => ?_, fun hp => ?_, fun hp => ?_⟩
  · obtain ⟨k, l, _, p2⟩ := Sp.two_iff.1 ((hs (u, e)).1 (Sp.mem (by simp)))
    rw [h0] at p2; simp at p2; omega
  · obtain ⟨e1, e2, e3⟩ := hnf_uniq ha hp (by omega) (by omega) hs
    refine ⟨e2, e1, ?_⟩
    rw [e2]; exact emod_of hb.1 hb.2 e3
  · have hs2 : SpEq [(N, 0), (u, e)] [(a, 0), ((-b) % a, -dd)] := hs.trans ((SpEq.neg a b dd).symm.trans (hm_red ha).symm)
    obtain ⟨e1, e2, e3⟩ := hnf_uniq ha (show 0 < -dd by omega) (by omega) (by omega) hs2
    refine ⟨e2, e1, ?_⟩
    rw [e2]
    exact emod_of (Int.emod_nonneg _ (by omega)) (Int.emod_lt_of_pos _ ha) e3
theorem tdiv_facts {d y : Int} (hy : y ≠ 0) (hd : -20000 ≤ d ∧ d ≤ 20000) : (-20000 ≤ d.tdiv y ∧ d.tdiv y ≤ 20000) ∧ (d - d.tdiv y * y).natAbs < y.natAbs := by
  have h1 := Int.natAbs_tdiv_le_natAbs d y
  have h2 := Int.mul_tdiv_add_tmod d y
  have h3 : (d.tmod y).natAbs < y.natAbs := by
    rw [Int.natAbs_tmod]
    exact Nat.mod_lt _ (by omega)
  have h4 : d - d.tdiv y * y = d.tmod y := by rw [Int.mul_comm]; omega
  rw [h4]
  exact ⟨by omega, h3⟩
/-- The state of the outer loop. -/
def HmSt (L : List (Int × Int)) (w : World) (v6 v7 v8 v16 : Value) (wr : World) : Prop :=
  ∃ (k : Nat) (a b d : Int), v16 = .int .i64 k ∧ v6 = .int .i64 a ∧ v7 = .int .i64 b ∧ v8 = .int .i64 d ∧ k ≤ L.length ∧ (-20000 ≤ d ∧ d ≤ 20000) ∧ (0 ≤ a ∧ a ≤ 400000000) ∧ (0 ≤ b ∧ b ≤ 400000000) ∧
    Hid ((k = 0 → a = 0 ∧ b = 0 ∧ d = 0) ∧ (1 ≤ k → 0 < a ∧ b < a ∧ SpEq [(a, 0), (b, d)] (L.take k))) ∧ Below w.heap.size w wr
/-- The state of the inner loop. -/
def HmIn (a : Int) (S : List (Int × Int)) (v7 v8 v11 v12 : Value) : Prop :=
  ∃ b d x y : Int, v7 = .int .i64 b ∧ v8 = .int .i64 d ∧ v11 = .int .i64 x ∧ v12 = .int .i64 y ∧ (-400000000 ≤ b ∧ b ≤ 400000000) ∧ (-20000 ≤ d ∧ d ≤ 20000) ∧ (-400000000 ≤ x ∧ x ≤ 400000000) ∧ (-20000 ≤ y ∧ y ≤ 20000) ∧ Hid (SpEq [(a, 0), (b, d), (x, y)] S)
set_option maxRecDepth 100000 in
set_option maxHeartbeats 12800000 in
theorem hermite_any (x0 : Int) (L' : List (Int × Int)) (N u e : Int) (v : Value) (B : Nat) (w : World) (hx0 : 0 < x0 ∧ x0 ≤ 400000000)
    (hb : ∀ p ∈ L', (-400000000 ≤ p.1 ∧ p.1 ≤ 400000000) ∧ (-20000 ≤ p.2 ∧ p.2 ≤ 20000)) (hlen : L'.length ≤ 100) (hsp : SpEq [(N, 0), (u, e)] ((x0, 0) :: L')) (hN : 0 < N) (he : 0 < e)
    (ho : w.ownsRow B 113 2 v ((x0, 0) :: L').length (cellsP ((x0, 0) :: L'))) :
    Calls Try.prog 129 #[v] w fun e1 w' => e1 = .returned (.tuple #[.int .i64 N, .int .i64 (u % N), .int .i64 e, .bool true]) ∧ Below w.heap.size w w' := by
  obtain ⟨bl, cl, rfl⟩ := own_shape ho
  have HO := Lib.hid ho
  have HB : Hid (∀ k (h : k < ((x0, 0) :: L').length), 1 ≤ k → (-400000000 ≤ (((x0, 0) :: L')[k]).1 ∧ (((x0, 0) :: L')[k]).1 ≤ 400000000) ∧ (-20000 ≤ (((x0, 0) :: L')[k]).2 ∧ (((x0, 0) :: L')[k]).2 ≤ 20000)) := Lib.hid (fun k h h1 => by
    obtain ⟨j, rfl⟩ : ∃ j, k = j + 1 := ⟨k - 1, by omega⟩
    exact hb _ (by rw [List.getElem_cons_succ]; exact List.getElem_mem _))
  have H0 : Hid (∀ h : 0 < ((x0, 0) :: L').length, ((x0, 0) :: L')[0] = (x0, 0)) := Lib.hid (fun _ => rfl)
  have hlen2 : ((x0, 0) :: L').length ≤ 101 := by simp; omega
  have hlen1 : 1 ≤ ((x0, 0) :: L').length := by simp
  have HT1 : Hid (((x0, 0) :: L').take 1 = [(x0, 0)]) := Lib.hid rfl
  have HS := Lib.hid hsp
  clear hb hlen hsp ho
  generalize ((x0, 0) :: L') = L at *
  have hm := Lib.hid mod_any
  have hg := Lib.hid gcd_any
  go_enter Try.func129, Try.ntmps129
  go_wp2
  go_loopw [6, 7, 8, 16] (fun v6 v7 v8 v16 wr => HmSt L w v6 v7 v8 v16 wr) (fun _ _ _ v16 _ => L.length - (intOf v16).toNat)
  case atStart => exact ⟨0, 0, 0, 0, rfl, rfl, rfl, rfl, Nat.zero_le _, by omega, by omega, by omega, Lib.hid ⟨fun _ => ⟨rfl, rfl, rfl⟩, fun h => by omega⟩, Below.refl _ _⟩
  case round =>
    obtain ⟨k, a, b, d, rfl, rfl, rfl, rfl, hk, hd, ha, hb, hst, hbel⟩ := hrel
    have hz := hbel.size
    by_cases hlt : k < L.length
    · obtain ⟨g, rfl, lg, d1, d2⟩ := own_elemP (own_call hbel HO.out) hlt
      have ng : ¬ g = wr.heap.size := by omega
      have kI : (k : Int) < (L.length : Int) := by omega
      by_cases hk0 : k = 0
      · subst hk0
        obtain ⟨rfl, rfl, rfl⟩ := hst.out.1 rfl
        rw [H0.out hlt] at d1 d2
        simp only at d1 d2
        have hG : Hid (∀ w, Calls Try.prog 91 #[.int .i64 0, .int .i64 x0] w fun e w' => e = .returned (.int .i64 x0) ∧ ∃ n, w' = w.drewN n) := Lib.hid (fun w => by
          have h := hg.out 0 x0 w (by omega) (by omega) (by omega) (by omega)
          rw [Int.gcd_zero_left, show ((x0.natAbs : Nat) : Int) = x0 by omega] at h
          exact h)
        have hM : Hid (∀ w, Calls Try.prog 95 #[.int .i64 0, .int .i64 x0] w fun e w' => e = .returned (.int .i64 0) ∧ w = w') := Lib.hid (fun w => by
          have h := hm.out 0 x0 w (by omega) (by omega)
          rw [Int.zero_emod] at h
          exact h)
        have hx : (x0 != 0) = true := by rw [bne_iff_ne]; omega
        have x1 := hx0.1; have x2 := hx0.2
        clear hst hd ha hb
        go_wp2
        go_region
        go_wp2
        refine wp_loop_rounds 1 ?_
        rw [rounds_succ]
        go_wp2_with (first | (go_at_call 91; refine (hG.out _).mono ?_; rintro e v ⟨rfl, nq, rfl⟩) | (go_at_call 95; (with_reducible refine (hM.out _).mono ?_); rintro e v ⟨rfl, rfl⟩))
        go_roundw
        case rel => exact ⟨1, x0, 0, 0, by go_num, rfl, rfl, rfl, hlt, by omega, by omega, by omega, Lib.hid ⟨fun h => by omega, fun _ => ⟨x1, x1, by
          rw [HT1.out]
          refine SpEq.of (fun z hz => ?_) (fun z hz => Sp.mem (by simp only [List.mem_singleton] at hz; simp [hz]))
          rcases List.mem_cons.1 hz with rfl | hz
          · exact Sp.mem (by simp)
          · obtain rfl := List.mem_singleton.1 hz; exact Sp.zero _⟩⟩, (by repeat (first | with_reducible exact Below.refl _ _ | with_reducible assumption | with_reducible apply Below.drew | with_reducible apply below_drewN | (with_reducible apply below_setp; (first | omega | (simp <;> omega))) | (with_reducible apply below_allocp; (first | omega | (simp <;> omega))) | (with_reducible refine below_viap (by assumption) ?_ ?_; (first | omega | (simp <;> omega)))))⟩
        case measure => simp [intOf] <;> omega
      · obtain ⟨a0, ba, hsp⟩ := hst.out.2 (by omega)
        obtain ⟨⟨x1, x2⟩, y1, y2⟩ := HB.out k hlt (by omega)
        have HTk : Hid (L.take (k + 1) = L.take k ++ [L[k]]) := Lib.hid (List.take_succ_eq_append_getElem hlt)
        have HSp := Lib.hid hsp
        obtain ⟨⟨x, y⟩, hv⟩ : ∃ z, L[k] = z := ⟨_, rfl⟩
        rw [hv] at d1 d2 x1 x2 y1 y2 HTk
        simp only at d1 d2 x1 x2 y1 y2
        have hM := Lib.hid (fun z w => hm.out z a w a0 (by omega))
        have na : (a != 0) = true := by rw [bne_iff_ne]; omega
        clear hst hsp hv
        go_wp2
        go_region
        go_wp2
        go_loop [7, 8, 11, 12] (fun v7 v8 v11 v12 => HmIn a ([(a, 0), (b, d)] ++ [(x, y)]) v7 v8 v11 v12) (fun _ _ _ v12 => (intOf v12).natAbs)
        case atStart => exact ⟨b, d, x, y, rfl, rfl, rfl, rfl, by omega, hd, by omega, by omega, Lib.hid (SpEq.refl _)⟩
        case round =>
          obtain ⟨b', d', x', y', rfl, rfl, rfl, rfl, hb', hd', hx', hy', hS'⟩ := hrel
          by_cases hy0 : y' = 0
          · subst hy0
            have hgp : 0 < (Int.gcd a x' : Int) := by
              have := Int.gcd_pos_of_ne_zero_left x' (show a ≠ 0 by omega)
              omega
            have hgl : (Int.gcd a x' : Int) ≤ a := Int.le_of_dvd a0 (Int.gcd_dvd_left ..)
            have HSn : Hid (SpEq [((Int.gcd a x' : Int), 0), (b' % (Int.gcd a x' : Int), d')] (L.take (k + 1))) := Lib.hid (by
              rw [HTk.out]
              exact (hm_gcd a0).trans (hS'.out.trans (HSp.out.app (SpEq.refl _))))
            have hG := Lib.hid (fun w => hg.out a x' w (by omega) (by omega) (by omega) (by omega))
            have hM2 := Lib.hid (fun w => hm.out b' (Int.gcd a x' : Int) w hgp (by omega))
            have r1 := Int.emod_nonneg b' (show (Int.gcd a x' : Int) ≠ 0 by omega)
            have r2 := Int.emod_lt_of_pos b' hgp
            generalize (Int.gcd a x' : Int) = t at *
            generalize b' % t = r at *
            have nt : (t != 0) = true := by rw [bne_iff_ne]; omega
            clear hS' HSp HTk hM
            go_wp2_with (first | (go_at_call 91; refine (hG.out _).mono ?_; rintro e v ⟨rfl, nq, rfl⟩) | (go_at_call 95; (with_reducible refine (hM2.out _).mono ?_); rintro e v ⟨rfl, rfl⟩))
            go_roundw
            case rel => exact ⟨k + 1, t, r, d', by go_num, rfl, rfl, rfl, hlt, hd', by omega, by omega, Lib.hid ⟨fun h => by omega, fun _ => ⟨hgp, r2, HSn.out⟩⟩, (by repeat (first | with_reducible exact Below.refl _ _ | with_reducible assumption | with_reducible apply Below.drew | with_reducible apply below_drewN | (with_reducible apply below_setp; (first | omega | (simp <;> omega))) | (with_reducible apply below_allocp; (first | omega | (simp <;> omega))) | (with_reducible refine below_viap (by assumption) ?_ ?_; (first | omega | (simp <;> omega)))))⟩
            case measure => simp [intOf] <;> omega
          · obtain ⟨⟨q1, q2⟩, q3⟩ := tdiv_facts hy0 hd'
            have n1 : (y' != 0) = true := by rw [bne_iff_ne]; exact hy0
            have n2 : (y' == 0) = false := beq_eq_false_iff_ne.2 hy0
            have HSn : Hid (SpEq [(a, 0), (x', y'), ((b' - d'.tdiv y' * x') % a, d' - d'.tdiv y' * y')] ([(a, 0), (b, d)] ++ [(x, y)])) := Lib.hid ((hm_step a0).trans hS'.out)
            obtain ⟨q, hq⟩ : ∃ q, d'.tdiv y' = q := ⟨_, rfl⟩
            rw [hq] at q1 q2 q3 HSn
            have m1 := mul_bd (a := q) (x := x') (A := 20000) (X := 400000000) (by omega) (by omega) (by omega) (by omega)
            have m2 := mul_bd (a := q) (x := y') (A := 20000) (X := 20000) (by omega) (by omega) (by omega) (by omega)
            have w0 : wrap64 q = q := IntWalk.wrap64_in _ (by omega)
            have w1 : wrap64 (q * x') = q * x' := IntWalk.wrap64_in _ (by omega)
            have w2 : wrap64 (b' - q * x') = b' - q * x' := IntWalk.wrap64_in _ (by omega)
            have w3 : wrap64 (q * y') = q * y' := IntWalk.wrap64_in _ (by omega)
            have w4 : wrap64 (d' - q * y') = d' - q * y' := IntWalk.wrap64_in _ (by omega)
            have r1 := Int.emod_nonneg (b' - q * x') (show a ≠ 0 by omega)
            have r2 := Int.emod_lt_of_pos (b' - q * x') a0
            have hMz := Lib.hid (fun w => hM.out (b' - q * x') w)
            have Q3 := Lib.hid q3
            have D5 : -20000 ≤ d' - q * y' ∧ d' - q * y' ≤ 20000 := by omega
            clear hS' q3
            go_wp2_with (go_at_call 95; (with_reducible refine (hMz.out _).mono ?_); rintro e v ⟨rfl, rfl⟩)
            go_round
            case rel => exact ⟨x', y', (b' - q * x') % a, d' - q * y', rfl, rfl, rfl, rfl, hx', hy', by omega, D5, HSn⟩
            case measure => simp [intOf]; exact Q3.out
    · have ek : k = L.length := by omega
      obtain ⟨a0, ba, hsp⟩ := hst.out.2 (by omega)
      rw [ek, List.take_length] at hsp
      obtain ⟨z1, z2, z3⟩ := hm_end hsp HS.out a0 ⟨hb.1, ba⟩ hN he
      have na : (a == 0) = false := beq_eq_false_iff_ne.2 (by omega)
      have nd : (d == 0) = false := beq_eq_false_iff_ne.2 z1
      have kI : ¬ (k : Int) < (L.length : Int) := by omega
      have hM : Hid (∀ w, Calls Try.prog 95 #[.int .i64 (-b), .int .i64 a] w fun e w' => e = .returned (.int .i64 ((-b) % a)) ∧ w = w') := Lib.hid (fun w => hm.out (-b) a w a0 (by omega))
      clear hst hsp HS ek
      by_cases hneg : d < 0
      · obtain ⟨e1, e2, e3⟩ := z3 hneg
        rw [e3] at hM
        have HE : Hid (N = a ∧ e = -d) := Lib.hid ⟨e1, e2⟩
        clear z1 z2 z3 e1 e2 e3
        go_wp2_with (go_at_call 95; (with_reducible refine (hM.out _).mono ?_); rintro e v ⟨rfl, rfl⟩)
        obtain ⟨e1, e2⟩ := HE.out
        subst e1; subst e2
        exact bodyPost_ret (v := .tuple #[.int .i64 N, .int .i64 (u % N), .int .i64 (-d), .bool true]) (by simp [results, Try.results129, go_sem, *]) rfl ⟨rfl, (by repeat (first | with_reducible exact Below.refl _ _ | with_reducible assumption | with_reducible apply Below.drew | with_reducible apply below_drewN | (with_reducible apply below_setp; (first | omega | (simp <;> omega))) | (with_reducible apply below_allocp; (first | omega | (simp <;> omega))) | (with_reducible refine below_viap (by assumption) ?_ ?_; (first | omega | (simp <;> omega)))))⟩
      · obtain ⟨e1, e2, e3⟩ := z2 (by omega)
        have HE : Hid (N = a ∧ e = d ∧ b = u % N) := Lib.hid ⟨e1, e2, e3⟩
        clear z1 z2 z3 e1 e2 e3
        go_wp2
        obtain ⟨e1, e2, e3⟩ := HE.out
        rw [← e3]
        subst e1; subst e2
        exact bodyPost_ret (v := .tuple #[.int .i64 N, .int .i64 b, .int .i64 e, .bool true]) (by simp [results, Try.results129, go_sem, *]) rfl ⟨rfl, (by repeat (first | with_reducible exact Below.refl _ _ | with_reducible assumption | with_reducible apply Below.drew | with_reducible apply below_drewN | (with_reducible apply below_setp; (first | omega | (simp <;> omega))) | (with_reducible apply below_allocp; (first | omega | (simp <;> omega))) | (with_reducible refine below_viap (by assumption) ?_ ?_; (first | omega | (simp <;> omega)))))⟩
end Go.Proofs.Ytjjkndgokdofdaa
