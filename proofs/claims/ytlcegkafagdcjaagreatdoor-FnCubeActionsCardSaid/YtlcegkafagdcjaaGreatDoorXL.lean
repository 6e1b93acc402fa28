/- Parts FP FR FW FX laid together by tp.py. -/
import Derived.Test.YtlcegkafagdcjaaGreatDoorFH
import Derived.Test.YtlcegkafagdcjaaGreatDoorXK
import Derived.Test.YtlcegkafagdcjaaGreatDoorOP
import Derived.Test.YtlcegkafagdcjaaGreatDoorRY
import Derived.Test.YtlcegkafagdcjaaGreatDoorGU
import Derived.Test.YtlcegkafagdcjaaGreatDoorFO
namespace Go.Proofs.YtlcegkafagdcjaaGreatDoor
section
open Go.RowKit

theorem cu_small {k : Cu} (h : cuB k = true) : CgC.small k := by
  have V := cuB_v h
  exact ⟨⟨V.a1, V.a2⟩, ⟨V.b1, V.b2⟩, ⟨V.c1, V.c2⟩, ⟨V.d1, V.d2⟩, ⟨V.e1, V.e2⟩, ⟨V.f1, V.f2⟩, ⟨V.g1, V.g2⟩, ⟨V.h1, V.h2⟩⟩
theorem propB_mat {m : M4} (h : propB m = true) : matB m = true := by
  unfold propB at h
  rw [Bool.and_eq_true] at h
  exact h.1
theorem propB_det {m : M4} (h : propB m = true) : m.det = 1 := by
  obtain ⟨⟨p1, p2⟩, ⟨q1, q2⟩, ⟨r1, r2⟩, ⟨s1, s2⟩⟩ := matB_bd (propB_mat h)
  unfold propB at h
  rw [Bool.and_eq_true, beq_iff_eq] at h
  have h2 := h.2
  have c : Cg (detW m) m.det := ((((Cg.refl m.p).mul (Cg.refl m.s)).wr).sub (((Cg.refl m.q).mul (Cg.refl m.r)).wr)).wr
  rw [h2] at c
  have x := mul_bd (a := m.p) (x := m.s) (A := 1000000) (X := 1000000) p1 p2 s1 s2
  have y := mul_bd (a := m.q) (x := m.r) (A := 1000000) (X := 1000000) q1 q2 r1 r2
  refine (c.eq ⟨by omega, by omega⟩ ?_).symm
  unfold M4.det
  generalize m.p * m.s = u at *
  generalize m.q * m.r = v at *
  omega
/-- What the forms of a cube are alike to, behind a matrix of determinant 1. -/
theorem act_cg (k : Cu) (m : M4) (hd : m.det = 1) {n j : Nat} (hn : n ≤ 2) (hj : j ≤ 2) : CgF (cuFn j (cuActF k n m)) (if j = n then actM (cuFn j k) m else cuFn j k) := by
  have h := cg_F (cg_tn (cg_act n (CgC.refl k) (CgM.refl m)) j)
  have e := act_forms k m hd n hn j hj
  unfold cuFn at e ⊢
  rw [e] at h
  exact h
theorem cuFn_bd {k : Cu} (h : cuB k = true) (j : Nat) : (-500000 ≤ (cuFn j k).a ∧ (cuFn j k).a ≤ 500000) ∧ (-1000000 ≤ (cuFn j k).b ∧ (cuFn j k).b ≤ 1000000) ∧ (-500000 ≤ (cuFn j k).c ∧ (cuFn j k).c ≤ 500000) := small_F (small_tn (cu_small h) j)
/-- The forms of the other directions stay. -/
theorem act_other {k K : Cu} {m : M4} (hk : cuB k = true) (hp : propB m = true) {n j : Nat} (hn : n ≤ 2) (hj : j ≤ 2) (hK : cuActF k n m = K) (hc : cuB K = true) (hne : j ≠ n) : cuFn j K = cuFn j k := by
  subst hK
  have h := act_cg k m (propB_det hp) hn hj
  rw [if_neg hne] at h
  obtain ⟨⟨a1, a2⟩, ⟨b1, b2⟩, ⟨c1, c2⟩⟩ := cuFn_bd hk j
  obtain ⟨⟨A1, A2⟩, ⟨B1, B2⟩, ⟨C1, C2⟩⟩ := cuFn_bd hc j
  exact h.eq ⟨⟨by omega, by omega⟩, ⟨by omega, by omega⟩, ⟨by omega, by omega⟩⟩ ⟨⟨by omega, by omega⟩, ⟨by omega, by omega⟩, ⟨by omega, by omega⟩⟩
def atU (a b c x y : Int) : Int := wrap64 (wrap64 (wrap64 (wrap64 (a * x) * x) + wrap64 (wrap64 (b * x) * y)) + wrap64 (wrap64 (c * y) * y))
def polU (a b c x y u v : Int) : Int := wrap64 (wrap64 (wrap64 (wrap64 (wrap64 (2 * a) * x) * u) + wrap64 (b * wrap64 (wrap64 (x * v) + wrap64 (y * u)))) + wrap64 (wrap64 (wrap64 (2 * c) * y) * v))
theorem cg_atU (a b c x y : Int) : Cg (atU a b c x y) (atF a b c x y) := by
  have r := Cg.refl
  exact (((((r a).mul (r x)).wr.mul (r x)).wr.add ((((r b).mul (r x)).wr.mul (r y)).wr)).wr.add ((((r c).mul (r y)).wr.mul (r y)).wr)).wr
theorem cg_polU (a b c x y u v : Int) : Cg (polU a b c x y u v) (polF a b c x y u v) := by
  have r := Cg.refl
  have h1 : Cg (wrap64 (wrap64 (wrap64 (2 * a) * x) * u)) (2 * a * x * u) := (((((r 2).mul (r a)).wr).mul (r x)).wr.mul (r u)).wr
  have h2 : Cg (wrap64 (b * wrap64 (wrap64 (x * v) + wrap64 (y * u)))) (b * (x * v + y * u)) := ((r b).mul ((((r x).mul (r v)).wr).add (((r y).mul (r u)).wr)).wr).wr
  have h3 : Cg (wrap64 (wrap64 (wrap64 (2 * c) * y) * v)) (2 * c * y * v) := (((((r 2).mul (r c)).wr).mul (r y)).wr.mul (r v)).wr
  exact ((h1.add h2).wr.add h3).wr
theorem Cg.small_wr {x y : Int} (h : Cg x y) {z : Int} (hz : wrap64 z = x) (b : -1000000 ≤ y ∧ y ≤ 1000000) : x = y := by
  have hx : -9223372036854775808 ≤ x ∧ x < 9223372036854775808 := by rw [← hz]; unfold wrap64; omega
  obtain ⟨q, h⟩ := h
  omega
/-- The form of the direction is the one that the program substitutes. -/
theorem act_this {k K : Cu} {m : M4} (hp : propB m = true) {n : Nat} (hn : n ≤ 2) (hK : cuActF k n m = K) (hc : cuB K = true) :
    atU (cuFn n k).a (cuFn n k).b (cuFn n k).c m.p m.r = (cuFn n K).a ∧ polU (cuFn n k).a (cuFn n k).b (cuFn n k).c m.p m.r m.q m.s = (cuFn n K).b ∧ atU (cuFn n k).a (cuFn n k).b (cuFn n k).c m.q m.s = (cuFn n K).c := by
  subst hK
  have h := act_cg k m (propB_det hp) hn hn
  rw [if_pos rfl] at h
  obtain ⟨⟨A1, A2⟩, ⟨B1, B2⟩, ⟨C1, C2⟩⟩ := cuFn_bd hc n
  exact ⟨((cg_atU _ _ _ _ _).trans h.a.symm).small_wr rfl ⟨by omega, by omega⟩, ((cg_polU _ _ _ _ _ _ _).trans h.b.symm).small_wr rfl ⟨by omega, by omega⟩, ((cg_atU _ _ _ _ _).trans h.c.symm).small_wr rfl ⟨by omega, by omega⟩⟩
theorem cuFn_fm {k : Cu} (h : cuB k = true) (j : Nat) : isFm (cuFn j k).a (cuFn j k).b (cuFn j k).c = true := by
  obtain ⟨⟨A1, A2⟩, ⟨B1, B2⟩, ⟨C1, C2⟩⟩ := cuFn_bd h j
  unfold isFm isNum
  simp only [Bool.and_eq_true, decide_eq_true_eq]
  refine ⟨⟨by omega, by omega⟩, ⟨by omega, by omega⟩, by omega, by omega⟩

theorem disc_actZ (f : Fm) (m : M4) (h : m.det = 1) : disc (actM f m) = disc f := by
  have e : disc (actM f m) = disc f * (m.det * m.det) := by unfold disc actM atF polF M4.det; dsimp only; grind
  rw [e, h]; omega
theorem prm_of_act {f : Fm} {m : M4} (h : Int.gcd (actM f m).a (Int.gcd (actM f m).b (actM f m).c) = 1) : Int.gcd f.a (Int.gcd f.b f.c) = 1 := by
  obtain ⟨G, hG⟩ : ∃ G : Nat, Int.gcd f.a (Int.gcd f.b f.c) = G := ⟨_, rfl⟩
  have d1 : (G : Int) ∣ f.a := by rw [← hG]; exact Int.gcd_dvd_left _ _
  have d0 : (G : Int) ∣ (Int.gcd f.b f.c : Int) := by rw [← hG]; exact Int.gcd_dvd_right _ _
  have d2 : (G : Int) ∣ f.b := Int.dvd_trans d0 (Int.gcd_dvd_left _ _)
  have d3 : (G : Int) ∣ f.c := Int.dvd_trans d0 (Int.gcd_dvd_right _ _)
  obtain ⟨u, hu⟩ := d1
  obtain ⟨v, hv⟩ := d2
  obtain ⟨z, hz⟩ := d3
  have at' : ∀ x y : Int, (G : Int) ∣ atF f.a f.b f.c x y := fun x y => ⟨u * x * x + v * x * y + z * y * y, by unfold atF; rw [hu, hv, hz]; grind⟩
  have pol' : ∀ x y s t : Int, (G : Int) ∣ polF f.a f.b f.c x y s t := fun x y s t => ⟨2 * u * x * s + v * (x * t + y * s) + 2 * z * y * t, by unfold polF; rw [hu, hv, hz]; grind⟩
  rw [hG]
  have k : (G : Int) ∣ ((Int.gcd (actM f m).a (Int.gcd (actM f m).b (actM f m).c) : Nat) : Int) := by
    refine Int.dvd_coe_gcd (at' _ _) (Int.dvd_coe_gcd (pol' _ _ _ _) (at' _ _))
  rw [h] at k
  have := Int.natCast_dvd_natCast.1 k
  exact Nat.dvd_one.1 this
theorem ud_cf {d : Int} {f g : Fm} {x y S Q T e h k b c t1 t2 : Int} (u : UD d f g x y S Q T e h k b c t1 t2) : CF d ⟨f.a * e, b, c⟩ (cmp d f g) := by
  obtain ⟨a1, a2⟩ := u.ae
  obtain ⟨c1, c2⟩ := u.c_bd
  have b1 := u.b0; have b2 := u.b1
  have bb := mul_bd (a := b) (x := b) (A := 2000000) (X := 2000000) (by omega) (by omega) (by omega) (by omega)
  have bc := mul_bd (a := f.a * e) (x := c) (A := 1000000) (X := 1000000) (by omega) (by omega) (by omega) (by omega)
  have hh := u.hc
  have e4 : 4 * (f.a * e) * c = 4 * (f.a * e * c) := by grind
  rw [e4] at hh
  refine ⟨u.D, u.dfn, u.cmp, u.D.cmpm u.hf u.hg, ?_, ⟨by dsimp only; omega, by dsimp only; omega⟩, ⟨by dsimp only; omega, by dsimp only; omega⟩, ?_⟩
  · unfold disc; dsimp only; rw [e4]; omega
  · dsimp only; rw [e4]; exact ⟨by omega, by omega⟩
theorem ud_opp {d : Int} {f g : Fm} {x y S Q T e h k b c t1 t2 : Int} (u : UD d f g x y S Q T e h k b c t1 t2) : red ⟨f.a * e, -b, c⟩ = red (oppF (cmp d f g)) := by
  have cf := ud_cf u
  refine (cf.opp0 ?_).1
  have h1 := (mem_clsL u.D.lo cf.mem).2
  rw [← cf.rd, ← (redM_act cf.df).1] at h1
  exact prm_of_act h1
/-- The forms of the cube of two forms. -/
theorem mk_law {d : Int} {f0 g0 f g : Fm} {x y S Q T e h k b c t1 t2 : Int} (u : UD d f g x y S Q T e h k b c t1 t2) (hf0 : Def 1000000 f0) (hg0 : Def 1000000 g0) (hf1 : -1000000 ≤ f0.b ∧ f0.b ≤ 1000000) (hg1 : -1000000 ≤ g0.b ∧ g0.b ≤ 1000000) (hrf : red f0 = f) (hrg : red g0 = g) (K : Cu)
    (hK : cuMk f.a b c e (mmM (redM f0 M4.one) (shM t1)) (mmM (mmM (redM g0 M4.one) ⟨x, Q + T * x, y, S + T * y⟩) (shM t2)) (redM ⟨f.a * e, -b, c⟩ M4.one) = K) (hc : cuB K = true) :
    cuF K = f0 ∧ cuF2 K = g0 ∧ cuF3 K = red (oppF (cmp d f g)) := by
  have mono : ∀ {p : Fm}, Def 1000000 p → Def M0 p := fun hp => def_mono hp (by decide)
  obtain ⟨rf1, rf2⟩ := redM_act (mono hf0)
  obtain ⟨rg1, rg2⟩ := redM_act (mono hg0)
  obtain ⟨rl1, rl2⟩ := redM_act (mono u.dfo)
  rw [hrf] at rf1
  rw [hrg] at rg1
  rw [ud_opp u] at rl1
  have hbd : ∀ j, (-500000 ≤ (cuFn j K).a ∧ (cuFn j K).a ≤ 500000) ∧ (-1000000 ≤ (cuFn j K).b ∧ (cuFn j K).b ≤ 1000000) ∧ (-500000 ≤ (cuFn j K).c ∧ (cuFn j K).c ≤ 500000) := fun j => cuFn_bd hc j
  generalize redM f0 M4.one = P at *
  generalize redM g0 M4.one = R at *
  generalize redM ⟨f.a * e, -b, c⟩ M4.one = L at *
  have dsh : ∀ t, (shM t).det = 1 := fun t => by unfold M4.det shM; dsimp only; omega
  have hdet := u.co.det
  obtain ⟨C, hC⟩ : ∃ C : M4, (⟨x, Q + T * x, y, S + T * y⟩ : M4) = C := ⟨_, rfl⟩
  have dC : C.det = 1 := by rw [← hC]; unfold M4.det; dsimp only; exact hdet
  have aC : actM g C = ⟨e, h, k⟩ := by rw [← hC, u.ee, u.eh, u.ek]; rfl
  rw [hC] at hK
  have dM : (P.mul (shM t1)).det = 1 := by rw [det_mul, rf2, dsh]; rfl
  have dN : ((R.mul C).mul (shM t2)).det = 1 := by rw [det_mul, det_mul, rg2, dC, dsh]; rfl
  obtain ⟨ae1, ae2⟩ := u.ae
  obtain ⟨e1, e2⟩ := u.e_pos
  have dcf := (mem_clsL u.D.lo u.hf).1.2.2.1
  have dcg := (mem_clsL u.D.lo u.hg).1.2.2.1
  have fa1 := (mem_clsL u.D.lo u.hf).1.1
  have hh := u.hc
  have shA : ∀ (p : Fm) (t : Int), ∃ z, actM p (shM t) = ⟨p.a, p.b + 2 * (p.a * t), z⟩ := fun p t => ⟨_, by
    unfold actM shM atF polF
    simp only [Fm.mk.injEq]
    exact ⟨by grind, by grind, rfl⟩⟩
  have h1 : actM f0 (P.mul (shM t1)) = ⟨f.a, b, e * c⟩ := by
    have dd := disc_actZ f (shM t1) (dsh t1)
    rw [dcf] at dd
    rw [← act_mul, rf1]
    obtain ⟨z, hz⟩ := shA f t1
    rw [hz] at dd ⊢
    rw [← u.t1] at dd ⊢
    unfold disc at dd
    dsimp only at dd
    have e4 : 4 * f.a * z = 4 * (f.a * z) := by grind
    have e5 : 4 * (f.a * e) * c = 4 * (f.a * (e * c)) := by grind
    rw [e4] at dd
    rw [e5] at hh
    have e6 : f.a * z = f.a * (e * c) := by omega
    rw [Int.eq_of_mul_eq_mul_left (by omega) e6]
  have h2 : actM g0 ((R.mul C).mul (shM t2)) = ⟨e, b, f.a * c⟩ := by
    have dd := disc_actZ ⟨e, h, k⟩ (shM t2) (dsh t2)
    have dg := disc_actZ g C dC
    rw [aC, dcg] at dg
    rw [dg] at dd
    rw [← act_mul, ← act_mul, rg1, aC]
    obtain ⟨z, hz⟩ := shA ⟨e, h, k⟩ t2
    dsimp only at hz
    rw [hz] at dd ⊢
    rw [← u.t2] at dd ⊢
    unfold disc at dd
    dsimp only at dd
    have e4 : 4 * e * z = 4 * (e * z) := by grind
    have e5 : 4 * (f.a * e) * c = 4 * (e * (f.a * c)) := by grind
    rw [e4] at dd
    rw [e5] at hh
    have e6 : e * z = e * (f.a * c) := by omega
    rw [Int.eq_of_mul_eq_mul_left (by omega) e6]
  have H := cube_of dM dN rl2 h1 h2
  dsimp only at H
  rw [rl1] at H
  have cM : CgM (mmM P (shM t1)) (P.mul (shM t1)) := cg_mmM (.refl _) (.refl _)
  have cN : CgM (mmM (mmM R C) (shM t2)) ((R.mul C).mul (shM t2)) := cg_mmM (cg_mmM (.refl _) (.refl _)) (.refl _)
  have cK : CgC K (cuZn (cuZn (cuZn (cuK f.a b c e) 0 (P.mul (shM t1)).inv) 1 ((R.mul C).mul (shM t2)).inv) 2 L) := by
    rw [← hK]
    exact cg_act 2 (cg_act 1 (cg_act 0 (CgC.refl _) (cg_inv cM dM)) (cg_inv cN dN)) (CgM.refl L)
  obtain ⟨H1, H2, H3⟩ := H
  have q0 := cg_F cK
  have q1 : CgF (cuF2 K) _ := cg_F (cg_T cK)
  have q2 : CgF (cuF3 K) _ := cg_F (cg_T (cg_T cK))
  have b0 := hbd 0; have b1 := hbd 1; have b2 := hbd 2
  rw [cuFn0] at b0
  rw [cuFn1] at b1
  rw [cuFn2] at b2
  have r3 := u.D.opp_mem (ud_cf u).mem (CF.of_mem u.D (ud_cf u).mem).df
  have r3b := cls_bd u.D.lo r3
  have w1 : cuF K = f0 := by
    rw [← H1]
    refine q0.eq ⟨⟨by omega, by omega⟩, ⟨by omega, by omega⟩, ⟨by omega, by omega⟩⟩ ?_
    rw [H1]
    have x1 := hf0.a0; have x2 := hf0.aM; have x3 := hf0.c0; have x4 := hf0.cM
    exact ⟨⟨by omega, by omega⟩, ⟨by omega, by omega⟩, ⟨by omega, by omega⟩⟩
  have w2 : cuF2 K = g0 := by
    rw [← H2]
    refine q1.eq ⟨⟨by omega, by omega⟩, ⟨by omega, by omega⟩, ⟨by omega, by omega⟩⟩ ?_
    rw [show cuF (cuT (cuZn (cuZn (cuZn (cuK f.a b c e) 0 (P.mul (shM t1)).inv) 1 ((R.mul C).mul (shM t2)).inv) 2 L)) = g0 from H2]
    have x1 := hg0.a0; have x2 := hg0.aM; have x3 := hg0.c0; have x4 := hg0.cM
    exact ⟨⟨by omega, by omega⟩, ⟨by omega, by omega⟩, ⟨by omega, by omega⟩⟩
  have w3 : cuF3 K = red (oppF (cmp d f g)) := by
    rw [← H3]
    refine q2.eq ⟨⟨by omega, by omega⟩, ⟨by omega, by omega⟩, ⟨by omega, by omega⟩⟩ ?_
    rw [show cuF (cuT (cuT (cuZn (cuZn (cuZn (cuK f.a b c e) 0 (P.mul (shM t1)).inv) 1 ((R.mul C).mul (shM t2)).inv) 2 L))) = _ from H3]
    exact ⟨⟨by omega, by omega⟩, ⟨by omega, by omega⟩, ⟨by omega, by omega⟩⟩
  exact ⟨w1, w2, w3⟩
end

section
open Go.RowKit

set_option maxHeartbeats 400000 in
theorem at_u (a b c x y : Int) (w : World) :
    Calls Tryz.prog 69 #[.agg #[.int .i64 a, .int .i64 b, .int .i64 c], .int .i64 x, .int .i64 y] w fun e w' => e = .returned (.int .i64 (atU a b c x y)) ∧ Below w.heap.size w w' := by
  go_enter Tryz.func69, Tryz.ntmps69
  go_wp2
  go_ret
  exact ⟨ret_int (by unfold atU; rfl), (by repeat (first | with_reducible (first | exact Below.refl _ _ | assumption | apply Below.drew | apply below_drewN) | (with_reducible (first | apply below_setp | apply below_allocp); (first | omega | (simp <;> omega))) | (with_reducible refine below_viap (by assumption) ?_ ?_; (first | omega | (simp <;> omega)))))⟩
set_option maxHeartbeats 400000 in
theorem polar_u (a b c x y u v : Int) (w : World) :
    Calls Tryz.prog 70 #[.agg #[.int .i64 a, .int .i64 b, .int .i64 c], .int .i64 x, .int .i64 y, .int .i64 u, .int .i64 v] w fun e w' => e = .returned (.int .i64 (polU a b c x y u v)) ∧ Below w.heap.size w w' := by
  go_enter Tryz.func70, Tryz.ntmps70
  go_wp2
  go_ret
  exact ⟨ret_int (by unfold polU; rfl), (by repeat (first | with_reducible (first | exact Below.refl _ _ | assumption | apply Below.drew | apply below_drewN) | (with_reducible (first | apply below_setp | apply below_allocp); (first | omega | (simp <;> omega))) | (with_reducible refine below_viap (by assumption) ?_ ?_; (first | omega | (simp <;> omega)))))⟩
set_option maxHeartbeats 800000 in
theorem substitute_u (a b c p q r s A B C : Int) (w : World) (h1 : atU a b c p r = A) (h2 : polU a b c p r q s = B) (h3 : atU a b c q s = C) :
    Calls Tryz.prog 36 #[.agg #[.int .i64 a, .int .i64 b, .int .i64 c], .agg #[.int .i64 p, .int .i64 q, .int .i64 r, .int .i64 s]] w fun e w' =>
      e = .returned (.agg #[.int .i64 A, .int .i64 B, .int .i64 C]) ∧ Below w.heap.size w w' := by
  subst h1; subst h2; subst h3
  go_enter Tryz.func36, Tryz.ntmps36
  go_wp2
  refine wp_region_calm 23 (Below (w.heap.size + 3) _) (by kernel_rfl) (by kernel_rfl) ((Below.refl _ _).drew) ?_
  simp only [List.take_succ_cons, List.take_zero, List.drop_succ_cons, List.drop_zero]
  repeat (first | (apply wpCalm_go; go_simp; (intro w' hw' hcc hff; go_simp; first | exact rfl | (refine (at_u a b c _ _ _).mono ?_; rintro e w1 ⟨rfl, hb⟩; exact ⟨rfl, calm_call (by simp <;> omega) hw' hb⟩) | (refine (polar_u a b c _ _ _ _ _).mono ?_; rintro e w1 ⟨rfl, hb⟩; exact ⟨rfl, calm_call (by simp <;> omega) hw' hb⟩)); (intro K hK; go_simp; refine hK _ ?_; clear hK K)) | (apply wpCalm_skip; go_simp; (try (focus (simp [undef]; done))); (intro K hK; go_simp; refine hK _ ?_; clear hK K)))
  refine wpCalm_nil ?_
  intro w1 hw1
  have hcc := (calm_cells hw1).1
  have hff := (calm_cells hw1).2
  have hss := calm_size hw1
  have hsz := hw1.size
  (try simp at hsz)
  go_wp2
  exact bodyPost_ret (v := .agg #[.int .i64 (atU a b c p r), .int .i64 (polU a b c p r q s), .int .i64 (atU a b c q s)]) (by simp [results, Tryz.results36, go_sem, *]) rfl ⟨rfl, (by repeat (first | with_reducible (first | exact Below.refl _ _ | assumption | apply Below.drew | apply below_drewN) | (with_reducible (first | apply below_setp | apply below_allocp); (first | omega | (simp <;> omega))) | (with_reducible refine below_viap (by assumption) ?_ ?_; (first | omega | (simp <;> omega)))))⟩
set_option maxRecDepth 100000 in
set_option maxHeartbeats 1600000 in
theorem implSub_u (a b c x q y t A B C : Int) (w : World) (hF : isFm a b c = true) (hM : matB ⟨x, q, y, t⟩ = true) (h1 : atU a b c x y = A) (h2 : polU a b c x y q t = B) (h3 : atU a b c q t = C) (hG : isFm A B C = true) :
    Calls Tryz.prog 9 #[.agg #[.int .i64 a, .int .i64 b, .int .i64 c], .agg #[.int .i64 x, .int .i64 q, .int .i64 y, .int .i64 t]] w fun e w' => e = .returned (.tuple #[.agg #[.int .i64 A, .int .i64 B, .int .i64 C], .bool true]) ∧ Below w.heap.size w w' := by
  have hFm := Lib.hid (fun w => IsForm_any a b c w)
  have hGm := Lib.hid (fun w => IsForm_any A B C w)
  have hMm := Lib.hid (fun w => isMatX_any ⟨x, q, y, t⟩ w)
  have hS := Lib.hid (fun w => substitute_u a b c x q y t A B C w h1 h2 h3)
  rw [hF] at hFm
  rw [hG] at hGm
  rw [hM] at hMm
  dsimp only at hMm
  clear hF hM h1 h2 h3 hG
  go_enter Tryz.func9, Tryz.ntmps9
  go_wp2_with (first
    | (go_at_call 34; (with_reducible refine (hFm.out _).mono ?_); rintro e v1 ⟨rfl, hB1⟩; have hZ1 := hB1.size; (try simp at hZ1); (try have zl1 : w.heap.size < v1.heap.size := by omega); (try have ze1 : w.heap.size ≤ v1.heap.size := by omega); (try have zn1 : ¬ w.heap.size = v1.heap.size := by omega); (try have zm1 : ¬ v1.heap.size = w.heap.size := by omega); have hA1 : Blk v1 (w.heap.size) 33 #[.int .i64 a, .int .i64 b, .int .i64 c] := Blk.call (by (repeat (first | with_reducible assumption | (with_reducible apply Blk.new_at; (first | rfl | (simp; done))) | with_reducible (first | apply Blk.store3 | apply Blk.store4) | (with_reducible apply Blk.farp; (first | omega | (simp <;> omega))) | with_reducible (first | apply Blk.allocp | apply Blk.drew | apply Blk.drewN)))) hB1; obtain ⟨cA1, fA1, lA1, mA1, nA1⟩ := hA1.all5; have hM1 : Blk v1 (w.heap.size + 1) 27 #[.int .i64 x, .int .i64 q, .int .i64 y, .int .i64 t] := Blk.call (by (repeat (first | with_reducible assumption | (with_reducible apply Blk.new_at; (first | rfl | (simp; done))) | with_reducible (first | apply Blk.store3 | apply Blk.store4) | (with_reducible apply Blk.farp; (first | omega | (simp <;> omega))) | with_reducible (first | apply Blk.allocp | apply Blk.drew | apply Blk.drewN)))) hB1; obtain ⟨cM1, fM1, lM1, mM1, nM1⟩ := hM1.all5; have hR1 : Blk v1 (w.heap.size + 1 + 1) 33 #[.int .i64 0, .int .i64 0, .int .i64 0] := Blk.call (by (repeat (first | with_reducible assumption | (with_reducible apply Blk.new_at; (first | rfl | (simp; done))) | with_reducible (first | apply Blk.store3 | apply Blk.store4) | (with_reducible apply Blk.farp; (first | omega | (simp <;> omega))) | with_reducible (first | apply Blk.allocp | apply Blk.drew | apply Blk.drewN)))) hB1; obtain ⟨cR1, fR1, lR1, mR1, nR1⟩ := hR1.all5)
    | (go_at_call 35; (with_reducible refine (hMm.out _).mono ?_); rintro e v2 ⟨rfl, hB2⟩; have hZ2 := hB2.size; (try simp at hZ2); (try have zl2 : w.heap.size < v2.heap.size := by omega); (try have ze2 : w.heap.size ≤ v2.heap.size := by omega); (try have zn2 : ¬ w.heap.size = v2.heap.size := by omega); (try have zm2 : ¬ v2.heap.size = w.heap.size := by omega); have hA2 : Blk v2 (w.heap.size) 33 #[.int .i64 a, .int .i64 b, .int .i64 c] := Blk.call (by (repeat (first | with_reducible assumption | (with_reducible apply Blk.new_at; (first | rfl | (simp; done))) | with_reducible (first | apply Blk.store3 | apply Blk.store4) | (with_reducible apply Blk.farp; (first | omega | (simp <;> omega))) | with_reducible (first | apply Blk.allocp | apply Blk.drew | apply Blk.drewN)))) hB2; obtain ⟨cA2, fA2, lA2, mA2, nA2⟩ := hA2.all5; have hM2 : Blk v2 (w.heap.size + 1) 27 #[.int .i64 x, .int .i64 q, .int .i64 y, .int .i64 t] := Blk.call (by (repeat (first | with_reducible assumption | (with_reducible apply Blk.new_at; (first | rfl | (simp; done))) | with_reducible (first | apply Blk.store3 | apply Blk.store4) | (with_reducible apply Blk.farp; (first | omega | (simp <;> omega))) | with_reducible (first | apply Blk.allocp | apply Blk.drew | apply Blk.drewN)))) hB2; obtain ⟨cM2, fM2, lM2, mM2, nM2⟩ := hM2.all5; have hR2 : Blk v2 (w.heap.size + 1 + 1) 33 #[.int .i64 0, .int .i64 0, .int .i64 0] := Blk.call (by (repeat (first | with_reducible assumption | (with_reducible apply Blk.new_at; (first | rfl | (simp; done))) | with_reducible (first | apply Blk.store3 | apply Blk.store4) | (with_reducible apply Blk.farp; (first | omega | (simp <;> omega))) | with_reducible (first | apply Blk.allocp | apply Blk.drew | apply Blk.drewN)))) hB2; obtain ⟨cR2, fR2, lR2, mR2, nR2⟩ := hR2.all5)
    | (go_at_call 36; (with_reducible refine (hS.out _).mono ?_); rintro e v3 ⟨rfl, hB3⟩; have hZ3 := hB3.size; (try simp at hZ3); (try have zl3 : w.heap.size < v3.heap.size := by omega); (try have ze3 : w.heap.size ≤ v3.heap.size := by omega); (try have zn3 : ¬ w.heap.size = v3.heap.size := by omega); (try have zm3 : ¬ v3.heap.size = w.heap.size := by omega); have hR3 : Blk v3 (w.heap.size + 1 + 1) 33 #[.int .i64 0, .int .i64 0, .int .i64 0] := Blk.call (by (repeat (first | with_reducible assumption | (with_reducible apply Blk.new_at; (first | rfl | (simp; done))) | with_reducible (first | apply Blk.store3 | apply Blk.store4) | (with_reducible apply Blk.farp; (first | omega | (simp <;> omega))) | with_reducible (first | apply Blk.allocp | apply Blk.drew | apply Blk.drewN)))) hB3; obtain ⟨cR3, fR3, lR3, mR3, nR3⟩ := hR3.all5)
    | (go_at_call 34; (with_reducible refine (hGm.out _).mono ?_); rintro e v4 ⟨rfl, hB4⟩; have hZ4 := hB4.size; (try simp at hZ4); (try have zl4 : w.heap.size < v4.heap.size := by omega); (try have ze4 : w.heap.size ≤ v4.heap.size := by omega); (try have zn4 : ¬ w.heap.size = v4.heap.size := by omega); (try have zm4 : ¬ v4.heap.size = w.heap.size := by omega); have hR4 : Blk v4 (w.heap.size + 1 + 1) 33 #[.int .i64 0, .int .i64 0, .int .i64 0] := Blk.call (by (repeat (first | with_reducible assumption | (with_reducible apply Blk.new_at; (first | rfl | (simp; done))) | with_reducible (first | apply Blk.store3 | apply Blk.store4) | (with_reducible apply Blk.farp; (first | omega | (simp <;> omega))) | with_reducible (first | apply Blk.allocp | apply Blk.drew | apply Blk.drewN)))) hB4; obtain ⟨cR4, fR4, lR4, mR4, nR4⟩ := hR4.all5; have hG4 : Blk v4 (v3.heap.size) 33 #[.int .i64 A, .int .i64 B, .int .i64 C] := Blk.call (by (repeat (first | with_reducible assumption | (with_reducible apply Blk.new_at; (first | rfl | (simp; done))) | with_reducible (first | apply Blk.store3 | apply Blk.store4) | (with_reducible apply Blk.farp; (first | omega | (simp <;> omega))) | with_reducible (first | apply Blk.allocp | apply Blk.drew | apply Blk.drewN)))) hB4; obtain ⟨cG4, fG4, lG4, mG4, nG4⟩ := hG4.all5))
  exact bodyPost_ret (v := .tuple #[.agg #[.int .i64 A, .int .i64 B, .int .i64 C], .bool true]) (by simp [results, Tryz.results9, go_sem, *]) rfl ⟨rfl, (by repeat (first | with_reducible (first | exact Below.refl _ _ | assumption | apply Below.drew | apply below_drewN) | (with_reducible (first | apply below_setp | apply below_allocp); (first | omega | (simp <;> omega))) | (with_reducible refine below_viap (by assumption) ?_ ?_; (first | omega | (simp <;> omega)))))⟩
/-- Substitute at the form of the direction in which the matrix acted. -/
theorem implSub_cu (k K : Cu) (m : M4) (n : Nat) (w : World) (hk : cuB k = true) (hp : propB m = true) (hn : n ≤ 2) (hK : cuActF k n m = K) (hc : cuB K = true) :
    Calls Tryz.prog 9 #[.agg #[.int .i64 (cuFn n k).a, .int .i64 (cuFn n k).b, .int .i64 (cuFn n k).c], .agg #[.int .i64 m.p, .int .i64 m.q, .int .i64 m.r, .int .i64 m.s]] w fun e w' => e = .returned (.tuple #[.agg #[.int .i64 (cuFn n K).a, .int .i64 (cuFn n K).b, .int .i64 (cuFn n K).c], .bool true]) ∧ Below w.heap.size w w' := by
  obtain ⟨h1, h2, h3⟩ := act_this hp hn hK hc
  exact implSub_u _ _ _ m.p m.q m.r m.s _ _ _ w (cuFn_fm hk n) (propB_mat hp) h1 h2 h3 (cuFn_fm hc n)
theorem oppZ_any (f : Fm) (w : World) (hb : Far f.b) : Calls Tryz.prog 46 #[.agg #[.int .i64 f.a, .int .i64 f.b, .int .i64 f.c]] w fun e w' => e = .returned (.agg #[.int .i64 (oppF f).a, .int .i64 (oppF f).b, .int .i64 (oppF f).c]) ∧ Below w.heap.size w w' := by
  have h : wrap64 (-f.b) = -f.b := IntWalk.wrap64_in _ (by obtain ⟨h1, h2⟩ := hb; omega)
  unfold oppF
  dsimp only
  generalize f.a = a at *
  generalize f.b = b at *
  generalize f.c = c at *
  clear hb
  go_enter Tryz.func46, Tryz.ntmps46
  go_wp2
  exact bodyPost_ret (v := .agg #[.int .i64 a, .int .i64 (-b), .int .i64 c]) (by simp [results, Tryz.results46, go_sem, *]) rfl ⟨rfl, (by repeat (first | with_reducible (first | exact Below.refl _ _ | assumption | apply Below.drew | apply below_drewN) | (with_reducible (first | apply below_setp | apply below_allocp); (first | omega | (simp <;> omega))) | (with_reducible refine below_viap (by assumption) ?_ ?_; (first | omega | (simp <;> omega)))))⟩
set_option maxRecDepth 100000 in
set_option maxHeartbeats 1600000 in
theorem invZ_any (d : Int) (p : Fm) (w : World) (D : Dsc d) (hp : p ∈ clsL d) :
    Calls Tryz.prog 17 #[.agg #[.int .i64 p.a, .int .i64 p.b, .int .i64 p.c]] w fun e w' => e = .returned (.tuple #[.agg #[.int .i64 (red (oppF p)).a, .int .i64 (red (oppF p)).b, .int .i64 (red (oppF p)).c], .bool true]) ∧ Below w.heap.size w w' := by
  have hc := cls_isCls D hp
  have cf := CF.opp D hp
  obtain ⟨_, ⟨B1, B2⟩, _⟩ := cls_bd D.lo hp
  have hO := Lib.hid (fun w => oppZ_any p w ⟨by omega, by omega⟩)
  have hR := Lib.hid (fun w => reduced_any (oppF p).a (oppF p).b (oppF p).c (red (oppF p)).a (red (oppF p)).b (red (oppF p)).c w cf.df rfl)
  generalize red (oppF p) = r at *
  generalize oppF p = o at *
  clear cf
  go_enter Tryz.func17, Tryz.ntmps17
  go_wp2_with (first | (go_at_call 51; (with_reducible refine (icls_any p.a p.b p.c _).mono ?_); rw [hc]; rintro e v1 ⟨rfl, hB1⟩; have hZ1 := hB1.size; (try simp at hZ1); (try have zl1 : w.heap.size < v1.heap.size := by omega); (try have ze1 : w.heap.size ≤ v1.heap.size := by omega); (try have zn1 : ¬ w.heap.size = v1.heap.size := by omega); (try have zm1 : ¬ v1.heap.size = w.heap.size := by omega); have hC1_0 := fun o => (calm_cells hB1).1 (w.heap.size) o (by first | omega | (simp <;> omega)); have hF1_0 := fun o => (calm_cells hB1).2 (w.heap.size) o (by first | omega | (simp <;> omega)); (try have hl1_0 : w.heap.size < v1.heap.size := by omega); (try have hm1_0 : ¬ w.heap.size = v1.heap.size := by omega); (try have hn1_0 : ¬ v1.heap.size = w.heap.size := by omega); have hC1_1 := fun o => (calm_cells hB1).1 (w.heap.size + 1) o (by first | omega | (simp <;> omega)); have hF1_1 := fun o => (calm_cells hB1).2 (w.heap.size + 1) o (by first | omega | (simp <;> omega)); (try have hl1_1 : w.heap.size + 1 < v1.heap.size := by omega); (try have hm1_1 : ¬ w.heap.size + 1 = v1.heap.size := by omega); (try have hn1_1 : ¬ v1.heap.size = w.heap.size + 1 := by omega)) | (go_at_call 46; (with_reducible refine (hO.out _).mono ?_); rintro e v2 ⟨rfl, hB2⟩; have hZ2 := hB2.size; (try simp at hZ2); (try have zl2 : w.heap.size < v2.heap.size := by omega); (try have ze2 : w.heap.size ≤ v2.heap.size := by omega); (try have zn2 : ¬ w.heap.size = v2.heap.size := by omega); (try have zm2 : ¬ v2.heap.size = w.heap.size := by omega); have hC2_0 := fun o => (calm_cells hB2).1 (w.heap.size) o (by first | omega | (simp <;> omega)); have hF2_0 := fun o => (calm_cells hB2).2 (w.heap.size) o (by first | omega | (simp <;> omega)); (try have hl2_0 : w.heap.size < v2.heap.size := by omega); (try have hm2_0 : ¬ w.heap.size = v2.heap.size := by omega); (try have hn2_0 : ¬ v2.heap.size = w.heap.size := by omega); have hC2_1 := fun o => (calm_cells hB2).1 (w.heap.size + 1) o (by first | omega | (simp <;> omega)); have hF2_1 := fun o => (calm_cells hB2).2 (w.heap.size + 1) o (by first | omega | (simp <;> omega)); (try have hl2_1 : w.heap.size + 1 < v2.heap.size := by omega); (try have hm2_1 : ¬ w.heap.size + 1 = v2.heap.size := by omega); (try have hn2_1 : ¬ v2.heap.size = w.heap.size + 1 := by omega)) | (go_at_call 52; (with_reducible refine (hR.out _).mono ?_); rintro e v3 ⟨rfl, hB3⟩; have hZ3 := hB3.size; (try simp at hZ3); (try have zl3 : w.heap.size < v3.heap.size := by omega); (try have ze3 : w.heap.size ≤ v3.heap.size := by omega); (try have zn3 : ¬ w.heap.size = v3.heap.size := by omega); (try have zm3 : ¬ v3.heap.size = w.heap.size := by omega); have hC3_0 := fun o => (calm_cells hB3).1 (w.heap.size) o (by first | omega | (simp <;> omega)); have hF3_0 := fun o => (calm_cells hB3).2 (w.heap.size) o (by first | omega | (simp <;> omega)); (try have hl3_0 : w.heap.size < v3.heap.size := by omega); (try have hm3_0 : ¬ w.heap.size = v3.heap.size := by omega); (try have hn3_0 : ¬ v3.heap.size = w.heap.size := by omega); have hC3_1 := fun o => (calm_cells hB3).1 (w.heap.size + 1) o (by first | omega | (simp <;> omega)); have hF3_1 := fun o => (calm_cells hB3).2 (w.heap.size + 1) o (by first | omega | (simp <;> omega)); (try have hl3_1 : w.heap.size + 1 < v3.heap.size := by omega); (try have hm3_1 : ¬ w.heap.size + 1 = v3.heap.size := by omega); (try have hn3_1 : ¬ v3.heap.size = w.heap.size + 1 := by omega)))
  exact bodyPost_ret (v := .tuple #[.agg #[.int .i64 r.a, .int .i64 r.b, .int .i64 r.c], .bool true]) (by simp [results, Tryz.results17, go_sem, *]) rfl ⟨rfl, (by repeat (first | with_reducible (first | exact Below.refl _ _ | assumption | apply Below.drew | apply below_drewN) | (with_reducible (first | apply below_setp | apply below_allocp); (first | omega | (simp <;> omega))) | (with_reducible refine below_viap (by assumption) ?_ ?_; (first | omega | (simp <;> omega)))))⟩
end

section
open Go.RowKit

set_option maxRecDepth 100000 in
set_option maxHeartbeats 6400000 in
theorem specCO_pair (f0 g0 : Fm) (w : World) (hp : pairB f0 g0 = false) : Calls Tryz.prog 15 #[.agg #[.int .i64 f0.a, .int .i64 f0.b, .int .i64 f0.c], .agg #[.int .i64 g0.a, .int .i64 g0.b, .int .i64 g0.c]] w fun e w' => e = .returned (.tuple #[.agg #[.int .i64 0, .int .i64 0, .int .i64 0, .int .i64 0, .int .i64 0, .int .i64 0, .int .i64 0, .int .i64 0], .bool false]) ∧ Below w.heap.size w w' := by
  have hT := Lib.hid (fun w => coTwo_any f0 g0 w)
  rw [hp] at hT
  clear hp
  go_enter Tryz.func15, Tryz.ntmps15
  go_wp2_with fail
  refine (hT.out _).mono ?_
  rintro e v1 ⟨rfl, hc1⟩
  have hz1 := hc1.size
  (try simp at hz1)
  have hF1 : Blk v1 (w.heap.size) 33 #[.int .i64 f0.a, .int .i64 f0.b, .int .i64 f0.c] := Blk.call (by (repeat (first | with_reducible assumption | (with_reducible apply Blk.new_at; (first | rfl | (simp; done))) | with_reducible (first | apply Blk.store3 | apply Blk.store4) | (with_reducible apply Blk.farp; (first | omega | (simp <;> omega))) | with_reducible (first | apply Blk.allocp | apply Blk.drew | apply Blk.drewN)))) hc1
  obtain ⟨cF1, fF1, lF1, mF1, nF1⟩ := hF1.all5
  have hG1 : Blk v1 (w.heap.size + 1) 33 #[.int .i64 g0.a, .int .i64 g0.b, .int .i64 g0.c] := Blk.call (by (repeat (first | with_reducible assumption | (with_reducible apply Blk.new_at; (first | rfl | (simp; done))) | with_reducible (first | apply Blk.store3 | apply Blk.store4) | (with_reducible apply Blk.farp; (first | omega | (simp <;> omega))) | with_reducible (first | apply Blk.allocp | apply Blk.drew | apply Blk.drewN)))) hc1
  obtain ⟨cG1, fG1, lG1, mG1, nG1⟩ := hG1.all5
  have hR1 : Blk v1 (w.heap.size + 1 + 1) 25 #[.int .i64 0, .int .i64 0, .int .i64 0, .int .i64 0, .int .i64 0, .int .i64 0, .int .i64 0, .int .i64 0] := Blk.call (by (repeat (first | with_reducible assumption | (with_reducible apply Blk.new_at; (first | rfl | (simp; done))) | with_reducible (first | apply Blk.store3 | apply Blk.store4) | (with_reducible apply Blk.farp; (first | omega | (simp <;> omega))) | with_reducible (first | apply Blk.allocp | apply Blk.drew | apply Blk.drewN)))) hc1
  obtain ⟨cR1, fR1, lR1, mR1, nR1⟩ := hR1.all5
  have hb1 : Below w.heap.size w v1 := (by repeat (first | with_reducible (first | exact Below.refl _ _ | assumption | apply Below.drew | apply below_drewN) | (with_reducible (first | apply below_setp | apply below_allocp); (first | omega | (simp <;> omega))) | (with_reducible refine below_viap (by assumption) ?_ ?_; (first | omega | (simp <;> omega)))))
  go_wp2
  exact bodyPost_ret (v := .tuple #[.agg #[.int .i64 0, .int .i64 0, .int .i64 0, .int .i64 0, .int .i64 0, .int .i64 0, .int .i64 0, .int .i64 0], .bool false]) (by simp [results, Tryz.results15, go_sem, *]) rfl ⟨rfl, (by repeat (first | with_reducible (first | exact Below.refl _ _ | assumption | apply Below.drew | apply below_drewN) | (with_reducible (first | apply below_setp | apply below_allocp); (first | omega | (simp <;> omega))) | (with_reducible refine below_viap (by assumption) ?_ ?_; (first | omega | (simp <;> omega)))))⟩
set_option maxRecDepth 100000 in
set_option maxHeartbeats 6400000 in
theorem specCO_no (d : Int) (f0 g0 f g : Fm) (x y S Q T e h k b c t1 t2 : Int) (w : World) (u : UD d f g x y S Q T e h k b c t1 t2) (hp : pairB f0 g0 = true) (hf0 : Def 1000000 f0) (hg0 : Def 1000000 g0) (hrf : red f0 = f) (hrg : red g0 = g) (K : Cu)
    (hK : cuMk f.a b c e (mmM (redM f0 M4.one) (shM t1)) (mmM (mmM (redM g0 M4.one) ⟨x, Q + T * x, y, S + T * y⟩) (shM t2)) (redM ⟨f.a * e, -b, c⟩ M4.one) = K) (hc : cuB K = false) : Calls Tryz.prog 15 #[.agg #[.int .i64 f0.a, .int .i64 f0.b, .int .i64 f0.c], .agg #[.int .i64 g0.a, .int .i64 g0.b, .int .i64 g0.c]] w fun e w' => e = .returned (.tuple #[.agg #[.int .i64 0, .int .i64 0, .int .i64 0, .int .i64 0, .int .i64 0, .int .i64 0, .int .i64 0, .int .i64 0], .bool false]) ∧ Below w.heap.size w w' := by
  have hT := Lib.hid (fun w => coTwo_any f0 g0 w)
  rw [hp] at hT
  have hM := Lib.hid (fun w => cuMakeX_any d f0 g0 f g x y S Q T e h k b c t1 t2 w u hf0 hg0 hrf hrg K hK)
  have hI := Lib.hid (fun w => cuIn_any K w)
  rw [hc] at hI
  clear hp u hf0 hg0 hrf hrg hK hc
  go_enter Tryz.func15, Tryz.ntmps15
  go_wp2_with fail
  refine (hT.out _).mono ?_
  rintro e v1 ⟨rfl, hc1⟩
  have hz1 := hc1.size
  (try simp at hz1)
  have hF1 : Blk v1 (w.heap.size) 33 #[.int .i64 f0.a, .int .i64 f0.b, .int .i64 f0.c] := Blk.call (by (repeat (first | with_reducible assumption | (with_reducible apply Blk.new_at; (first | rfl | (simp; done))) | with_reducible (first | apply Blk.store3 | apply Blk.store4) | (with_reducible apply Blk.farp; (first | omega | (simp <;> omega))) | with_reducible (first | apply Blk.allocp | apply Blk.drew | apply Blk.drewN)))) hc1
  obtain ⟨cF1, fF1, lF1, mF1, nF1⟩ := hF1.all5
  have hG1 : Blk v1 (w.heap.size + 1) 33 #[.int .i64 g0.a, .int .i64 g0.b, .int .i64 g0.c] := Blk.call (by (repeat (first | with_reducible assumption | (with_reducible apply Blk.new_at; (first | rfl | (simp; done))) | with_reducible (first | apply Blk.store3 | apply Blk.store4) | (with_reducible apply Blk.farp; (first | omega | (simp <;> omega))) | with_reducible (first | apply Blk.allocp | apply Blk.drew | apply Blk.drewN)))) hc1
  obtain ⟨cG1, fG1, lG1, mG1, nG1⟩ := hG1.all5
  have hR1 : Blk v1 (w.heap.size + 1 + 1) 25 #[.int .i64 0, .int .i64 0, .int .i64 0, .int .i64 0, .int .i64 0, .int .i64 0, .int .i64 0, .int .i64 0] := Blk.call (by (repeat (first | with_reducible assumption | (with_reducible apply Blk.new_at; (first | rfl | (simp; done))) | with_reducible (first | apply Blk.store3 | apply Blk.store4) | (with_reducible apply Blk.farp; (first | omega | (simp <;> omega))) | with_reducible (first | apply Blk.allocp | apply Blk.drew | apply Blk.drewN)))) hc1
  obtain ⟨cR1, fR1, lR1, mR1, nR1⟩ := hR1.all5
  have hb1 : Below w.heap.size w v1 := (by repeat (first | with_reducible (first | exact Below.refl _ _ | assumption | apply Below.drew | apply below_drewN) | (with_reducible (first | apply below_setp | apply below_allocp); (first | omega | (simp <;> omega))) | (with_reducible refine below_viap (by assumption) ?_ ?_; (first | omega | (simp <;> omega)))))
  go_wp2_with fail
  refine (hM.out _).mono ?_
  rintro e v2 ⟨rfl, hc2⟩
  have hz2 := hc2.size
  (try simp at hz2)
  have hF2 : Blk v2 (w.heap.size) 33 #[.int .i64 f0.a, .int .i64 f0.b, .int .i64 f0.c] := Blk.call (by (repeat (first | with_reducible assumption | (with_reducible apply Blk.new_at; (first | rfl | (simp; done))) | with_reducible (first | apply Blk.store3 | apply Blk.store4) | (with_reducible apply Blk.farp; (first | omega | (simp <;> omega))) | with_reducible (first | apply Blk.allocp | apply Blk.drew | apply Blk.drewN)))) hc2
  obtain ⟨cF2, fF2, lF2, mF2, nF2⟩ := hF2.all5
  have hG2 : Blk v2 (w.heap.size + 1) 33 #[.int .i64 g0.a, .int .i64 g0.b, .int .i64 g0.c] := Blk.call (by (repeat (first | with_reducible assumption | (with_reducible apply Blk.new_at; (first | rfl | (simp; done))) | with_reducible (first | apply Blk.store3 | apply Blk.store4) | (with_reducible apply Blk.farp; (first | omega | (simp <;> omega))) | with_reducible (first | apply Blk.allocp | apply Blk.drew | apply Blk.drewN)))) hc2
  obtain ⟨cG2, fG2, lG2, mG2, nG2⟩ := hG2.all5
  have hR2 : Blk v2 (w.heap.size + 1 + 1) 25 #[.int .i64 0, .int .i64 0, .int .i64 0, .int .i64 0, .int .i64 0, .int .i64 0, .int .i64 0, .int .i64 0] := Blk.call (by (repeat (first | with_reducible assumption | (with_reducible apply Blk.new_at; (first | rfl | (simp; done))) | with_reducible (first | apply Blk.store3 | apply Blk.store4) | (with_reducible apply Blk.farp; (first | omega | (simp <;> omega))) | with_reducible (first | apply Blk.allocp | apply Blk.drew | apply Blk.drewN)))) hc2
  obtain ⟨cR2, fR2, lR2, mR2, nR2⟩ := hR2.all5
  have hb2 : Below w.heap.size w v2 := (by repeat (first | with_reducible (first | exact Below.refl _ _ | assumption | apply Below.drew | apply below_drewN) | (with_reducible (first | apply below_setp | apply below_allocp); (first | omega | (simp <;> omega))) | (with_reducible refine below_viap (by assumption) ?_ ?_; (first | omega | (simp <;> omega)))))
  clear hF1 cF1 fF1 lF1 mF1 nF1 hG1 cG1 fG1 lG1 mG1 nG1 hR1 cR1 fR1 lR1 mR1 nR1
  go_wp2_with fail
  refine (hI.out _).mono ?_
  rintro e v3 ⟨rfl, hc3⟩
  have hz3 := hc3.size
  (try simp at hz3)
  have hF3 : Blk v3 (w.heap.size) 33 #[.int .i64 f0.a, .int .i64 f0.b, .int .i64 f0.c] := Blk.call (by (repeat (first | with_reducible assumption | (with_reducible apply Blk.new_at; (first | rfl | (simp; done))) | with_reducible (first | apply Blk.store3 | apply Blk.store4) | (with_reducible apply Blk.farp; (first | omega | (simp <;> omega))) | with_reducible (first | apply Blk.allocp | apply Blk.drew | apply Blk.drewN)))) hc3
  obtain ⟨cF3, fF3, lF3, mF3, nF3⟩ := hF3.all5
  have hG3 : Blk v3 (w.heap.size + 1) 33 #[.int .i64 g0.a, .int .i64 g0.b, .int .i64 g0.c] := Blk.call (by (repeat (first | with_reducible assumption | (with_reducible apply Blk.new_at; (first | rfl | (simp; done))) | with_reducible (first | apply Blk.store3 | apply Blk.store4) | (with_reducible apply Blk.farp; (first | omega | (simp <;> omega))) | with_reducible (first | apply Blk.allocp | apply Blk.drew | apply Blk.drewN)))) hc3
  obtain ⟨cG3, fG3, lG3, mG3, nG3⟩ := hG3.all5
  have hR3 : Blk v3 (w.heap.size + 1 + 1) 25 #[.int .i64 0, .int .i64 0, .int .i64 0, .int .i64 0, .int .i64 0, .int .i64 0, .int .i64 0, .int .i64 0] := Blk.call (by (repeat (first | with_reducible assumption | (with_reducible apply Blk.new_at; (first | rfl | (simp; done))) | with_reducible (first | apply Blk.store3 | apply Blk.store4) | (with_reducible apply Blk.farp; (first | omega | (simp <;> omega))) | with_reducible (first | apply Blk.allocp | apply Blk.drew | apply Blk.drewN)))) hc3
  obtain ⟨cR3, fR3, lR3, mR3, nR3⟩ := hR3.all5
  have hb3 : Below w.heap.size w v3 := (by repeat (first | with_reducible (first | exact Below.refl _ _ | assumption | apply Below.drew | apply below_drewN) | (with_reducible (first | apply below_setp | apply below_allocp); (first | omega | (simp <;> omega))) | (with_reducible refine below_viap (by assumption) ?_ ?_; (first | omega | (simp <;> omega)))))
  clear hF2 cF2 fF2 lF2 mF2 nF2 hG2 cG2 fG2 lG2 mG2 nG2 hR2 cR2 fR2 lR2 mR2 nR2
  go_wp2
  exact bodyPost_ret (v := .tuple #[.agg #[.int .i64 0, .int .i64 0, .int .i64 0, .int .i64 0, .int .i64 0, .int .i64 0, .int .i64 0, .int .i64 0], .bool false]) (by simp [results, Tryz.results15, go_sem, *]) rfl ⟨rfl, (by repeat (first | with_reducible (first | exact Below.refl _ _ | assumption | apply Below.drew | apply below_drewN) | (with_reducible (first | apply below_setp | apply below_allocp); (first | omega | (simp <;> omega))) | (with_reducible refine below_viap (by assumption) ?_ ?_; (first | omega | (simp <;> omega)))))⟩
set_option maxRecDepth 100000 in
set_option maxHeartbeats 6400000 in
theorem specCO_yes (d : Int) (f0 g0 f g : Fm) (x y S Q T e h k b c t1 t2 : Int) (w : World) (u : UD d f g x y S Q T e h k b c t1 t2) (hp : pairB f0 g0 = true) (hf0 : Def 1000000 f0) (hg0 : Def 1000000 g0) (hrf : red f0 = f) (hrg : red g0 = g) (K : Cu)
    (hK : cuMk f.a b c e (mmM (redM f0 M4.one) (shM t1)) (mmM (mmM (redM g0 M4.one) ⟨x, Q + T * x, y, S + T * y⟩) (shM t2)) (redM ⟨f.a * e, -b, c⟩ M4.one) = K) (hc : cuB K = true) : Calls Tryz.prog 15 #[.agg #[.int .i64 f0.a, .int .i64 f0.b, .int .i64 f0.c], .agg #[.int .i64 g0.a, .int .i64 g0.b, .int .i64 g0.c]] w fun e w' => e = .returned (.tuple #[.agg #[.int .i64 K.a, .int .i64 K.b, .int .i64 K.c, .int .i64 K.d, .int .i64 K.e, .int .i64 K.f, .int .i64 K.g, .int .i64 K.h], .bool true]) ∧ Below w.heap.size w w' := by
  have hT := Lib.hid (fun w => coTwo_any f0 g0 w)
  rw [hp] at hT
  have hM := Lib.hid (fun w => cuMakeX_any d f0 g0 f g x y S Q T e h k b c t1 t2 w u hf0 hg0 hrf hrg K hK)
  have hI := Lib.hid (fun w => cuIn_any K w)
  rw [hc] at hI
  clear hp u hf0 hg0 hrf hrg hK hc
  go_enter Tryz.func15, Tryz.ntmps15
  go_wp2_with fail
  refine (hT.out _).mono ?_
  rintro e v1 ⟨rfl, hc1⟩
  have hz1 := hc1.size
  (try simp at hz1)
  have hF1 : Blk v1 (w.heap.size) 33 #[.int .i64 f0.a, .int .i64 f0.b, .int .i64 f0.c] := Blk.call (by (repeat (first | with_reducible assumption | (with_reducible apply Blk.new_at; (first | rfl | (simp; done))) | with_reducible (first | apply Blk.store3 | apply Blk.store4) | (with_reducible apply Blk.farp; (first | omega | (simp <;> omega))) | with_reducible (first | apply Blk.allocp | apply Blk.drew | apply Blk.drewN)))) hc1
  obtain ⟨cF1, fF1, lF1, mF1, nF1⟩ := hF1.all5
  have hG1 : Blk v1 (w.heap.size + 1) 33 #[.int .i64 g0.a, .int .i64 g0.b, .int .i64 g0.c] := Blk.call (by (repeat (first | with_reducible assumption | (with_reducible apply Blk.new_at; (first | rfl | (simp; done))) | with_reducible (first | apply Blk.store3 | apply Blk.store4) | (with_reducible apply Blk.farp; (first | omega | (simp <;> omega))) | with_reducible (first | apply Blk.allocp | apply Blk.drew | apply Blk.drewN)))) hc1
  obtain ⟨cG1, fG1, lG1, mG1, nG1⟩ := hG1.all5
  have hR1 : Blk v1 (w.heap.size + 1 + 1) 25 #[.int .i64 0, .int .i64 0, .int .i64 0, .int .i64 0, .int .i64 0, .int .i64 0, .int .i64 0, .int .i64 0] := Blk.call (by (repeat (first | with_reducible assumption | (with_reducible apply Blk.new_at; (first | rfl | (simp; done))) | with_reducible (first | apply Blk.store3 | apply Blk.store4) | (with_reducible apply Blk.farp; (first | omega | (simp <;> omega))) | with_reducible (first | apply Blk.allocp | apply Blk.drew | apply Blk.drewN)))) hc1
  obtain ⟨cR1, fR1, lR1, mR1, nR1⟩ := hR1.all5
  have hb1 : Below w.heap.size w v1 := (by repeat (first | with_reducible (first | exact Below.refl _ _ | assumption | apply Below.drew | apply below_drewN) | (with_reducible (first | apply below_setp | apply below_allocp); (first | omega | (simp <;> omega))) | (with_reducible refine below_viap (by assumption) ?_ ?_; (first | omega | (simp <;> omega)))))
  go_wp2_with fail
  refine (hM.out _).mono ?_
  rintro e v2 ⟨rfl, hc2⟩
  have hz2 := hc2.size
  (try simp at hz2)
  have hF2 : Blk v2 (w.heap.size) 33 #[.int .i64 f0.a, .int .i64 f0.b, .int .i64 f0.c] := Blk.call (by (repeat (first | with_reducible assumption | (with_reducible apply Blk.new_at; (first | rfl | (simp; done))) | with_reducible (first | apply Blk.store3 | apply Blk.store4) | (with_reducible apply Blk.farp; (first | omega | (simp <;> omega))) | with_reducible (first | apply Blk.allocp | apply Blk.drew | apply Blk.drewN)))) hc2
  obtain ⟨cF2, fF2, lF2, mF2, nF2⟩ := hF2.all5
  have hG2 : Blk v2 (w.heap.size + 1) 33 #[.int .i64 g0.a, .int .i64 g0.b, .int .i64 g0.c] := Blk.call (by (repeat (first | with_reducible assumption | (with_reducible apply Blk.new_at; (first | rfl | (simp; done))) | with_reducible (first | apply Blk.store3 | apply Blk.store4) | (with_reducible apply Blk.farp; (first | omega | (simp <;> omega))) | with_reducible (first | apply Blk.allocp | apply Blk.drew | apply Blk.drewN)))) hc2
  obtain ⟨cG2, fG2, lG2, mG2, nG2⟩ := hG2.all5
  have hR2 : Blk v2 (w.heap.size + 1 + 1) 25 #[.int .i64 0, .int .i64 0, .int .i64 0, .int .i64 0, .int .i64 0, .int .i64 0, .int .i64 0, .int .i64 0] := Blk.call (by (repeat (first | with_reducible assumption | (with_reducible apply Blk.new_at; (first | rfl | (simp; done))) | with_reducible (first | apply Blk.store3 | apply Blk.store4) | (with_reducible apply Blk.farp; (first | omega | (simp <;> omega))) | with_reducible (first | apply Blk.allocp | apply Blk.drew | apply Blk.drewN)))) hc2
  obtain ⟨cR2, fR2, lR2, mR2, nR2⟩ := hR2.all5
  have hb2 : Below w.heap.size w v2 := (by repeat (first | with_reducible (first | exact Below.refl _ _ | assumption | apply Below.drew | apply below_drewN) | (with_reducible (first | apply below_setp | apply below_allocp); (first | omega | (simp <;> omega))) | (with_reducible refine below_viap (by assumption) ?_ ?_; (first | omega | (simp <;> omega)))))
  clear hF1 cF1 fF1 lF1 mF1 nF1 hG1 cG1 fG1 lG1 mG1 nG1 hR1 cR1 fR1 lR1 mR1 nR1
  go_wp2_with fail
  refine (hI.out _).mono ?_
  rintro e v3 ⟨rfl, hc3⟩
  have hz3 := hc3.size
  (try simp at hz3)
  have hF3 : Blk v3 (w.heap.size) 33 #[.int .i64 f0.a, .int .i64 f0.b, .int .i64 f0.c] := Blk.call (by (repeat (first | with_reducible assumption | (with_reducible apply Blk.new_at; (first | rfl | (simp; done))) | with_reducible (first | apply Blk.store3 | apply Blk.store4) | (with_reducible apply Blk.farp; (first | omega | (simp <;> omega))) | with_reducible (first | apply Blk.allocp | apply Blk.drew | apply Blk.drewN)))) hc3
  obtain ⟨cF3, fF3, lF3, mF3, nF3⟩ := hF3.all5
  have hG3 : Blk v3 (w.heap.size + 1) 33 #[.int .i64 g0.a, .int .i64 g0.b, .int .i64 g0.c] := Blk.call (by (repeat (first | with_reducible assumption | (with_reducible apply Blk.new_at; (first | rfl | (simp; done))) | with_reducible (first | apply Blk.store3 | apply Blk.store4) | (with_reducible apply Blk.farp; (first | omega | (simp <;> omega))) | with_reducible (first | apply Blk.allocp | apply Blk.drew | apply Blk.drewN)))) hc3
  obtain ⟨cG3, fG3, lG3, mG3, nG3⟩ := hG3.all5
  have hR3 : Blk v3 (w.heap.size + 1 + 1) 25 #[.int .i64 0, .int .i64 0, .int .i64 0, .int .i64 0, .int .i64 0, .int .i64 0, .int .i64 0, .int .i64 0] := Blk.call (by (repeat (first | with_reducible assumption | (with_reducible apply Blk.new_at; (first | rfl | (simp; done))) | with_reducible (first | apply Blk.store3 | apply Blk.store4) | (with_reducible apply Blk.farp; (first | omega | (simp <;> omega))) | with_reducible (first | apply Blk.allocp | apply Blk.drew | apply Blk.drewN)))) hc3
  obtain ⟨cR3, fR3, lR3, mR3, nR3⟩ := hR3.all5
  have hb3 : Below w.heap.size w v3 := (by repeat (first | with_reducible (first | exact Below.refl _ _ | assumption | apply Below.drew | apply below_drewN) | (with_reducible (first | apply below_setp | apply below_allocp); (first | omega | (simp <;> omega))) | (with_reducible refine below_viap (by assumption) ?_ ?_; (first | omega | (simp <;> omega)))))
  clear hF2 cF2 fF2 lF2 mF2 nF2 hG2 cG2 fG2 lG2 mG2 nG2 hR2 cR2 fR2 lR2 mR2 nR2
  go_wp2_with fail
  refine (hM.out _).mono ?_
  rintro e v4 ⟨rfl, hc4⟩
  have hz4 := hc4.size
  (try simp at hz4)
  have hF4 : Blk v4 (w.heap.size) 33 #[.int .i64 f0.a, .int .i64 f0.b, .int .i64 f0.c] := Blk.call (by (repeat (first | with_reducible assumption | (with_reducible apply Blk.new_at; (first | rfl | (simp; done))) | with_reducible (first | apply Blk.store3 | apply Blk.store4) | (with_reducible apply Blk.farp; (first | omega | (simp <;> omega))) | with_reducible (first | apply Blk.allocp | apply Blk.drew | apply Blk.drewN)))) hc4
  obtain ⟨cF4, fF4, lF4, mF4, nF4⟩ := hF4.all5
  have hG4 : Blk v4 (w.heap.size + 1) 33 #[.int .i64 g0.a, .int .i64 g0.b, .int .i64 g0.c] := Blk.call (by (repeat (first | with_reducible assumption | (with_reducible apply Blk.new_at; (first | rfl | (simp; done))) | with_reducible (first | apply Blk.store3 | apply Blk.store4) | (with_reducible apply Blk.farp; (first | omega | (simp <;> omega))) | with_reducible (first | apply Blk.allocp | apply Blk.drew | apply Blk.drewN)))) hc4
  obtain ⟨cG4, fG4, lG4, mG4, nG4⟩ := hG4.all5
  have hR4 : Blk v4 (w.heap.size + 1 + 1) 25 #[.int .i64 0, .int .i64 0, .int .i64 0, .int .i64 0, .int .i64 0, .int .i64 0, .int .i64 0, .int .i64 0] := Blk.call (by (repeat (first | with_reducible assumption | (with_reducible apply Blk.new_at; (first | rfl | (simp; done))) | with_reducible (first | apply Blk.store3 | apply Blk.store4) | (with_reducible apply Blk.farp; (first | omega | (simp <;> omega))) | with_reducible (first | apply Blk.allocp | apply Blk.drew | apply Blk.drewN)))) hc4
  obtain ⟨cR4, fR4, lR4, mR4, nR4⟩ := hR4.all5
  have hb4 : Below w.heap.size w v4 := (by repeat (first | with_reducible (first | exact Below.refl _ _ | assumption | apply Below.drew | apply below_drewN) | (with_reducible (first | apply below_setp | apply below_allocp); (first | omega | (simp <;> omega))) | (with_reducible refine below_viap (by assumption) ?_ ?_; (first | omega | (simp <;> omega)))))
  clear hF3 cF3 fF3 lF3 mF3 nF3 hG3 cG3 fG3 lG3 mG3 nG3 hR3 cR3 fR3 lR3 mR3 nR3
  go_wp2
  exact bodyPost_ret (v := .tuple #[.agg #[.int .i64 K.a, .int .i64 K.b, .int .i64 K.c, .int .i64 K.d, .int .i64 K.e, .int .i64 K.f, .int .i64 K.g, .int .i64 K.h], .bool true]) (by simp [results, Tryz.results15, go_sem, *]) rfl ⟨rfl, (by repeat (first | with_reducible (first | exact Below.refl _ _ | assumption | apply Below.drew | apply below_drewN) | (with_reducible (first | apply below_setp | apply below_allocp); (first | omega | (simp <;> omega))) | (with_reducible refine below_viap (by assumption) ?_ ?_; (first | omega | (simp <;> omega)))))⟩
/-- Whether a matrix acts on a cube in the direction i, and the cube that it makes. -/
def axB (k : Cu) (i : Int) (m : M4) : Bool := cuB k && ((decide (1 ≤ i) && decide (i ≤ 3)) && (propB m && cuB (cuActF k (i - 1).toNat m)))
def axC (k : Cu) (i : Int) (m : M4) : Cu := if axB k i m = true then cuActF k (i - 1).toNat m else ⟨0, 0, 0, 0, 0, 0, 0, 0⟩
theorem axB_iff {k : Cu} {i : Int} {m : M4} (h : axB k i m = true) : cuB k = true ∧ propB m = true ∧ ∃ n : Nat, n ≤ 2 ∧ i = (n : Int) + 1 ∧ cuActF k n m = axC k i m ∧ cuB (axC k i m) = true := by
  have e : axC k i m = cuActF k (i - 1).toNat m := by unfold axC; rw [if_pos h]
  unfold axB at h
  simp only [Bool.and_eq_true, decide_eq_true_eq] at h
  obtain ⟨h1, ⟨h2, h3⟩, h4, h5⟩ := h
  exact ⟨h1, h4, (i - 1).toNat, by omega, by omega, e.symm, by rw [e]; exact h5⟩
theorem implAc_all (k : Cu) (i : Int) (m : M4) (w : World) : Calls Tryz.prog 6 #[.agg #[.int .i64 k.a, .int .i64 k.b, .int .i64 k.c, .int .i64 k.d, .int .i64 k.e, .int .i64 k.f, .int .i64 k.g, .int .i64 k.h], .int .i64 i, .agg #[.int .i64 m.p, .int .i64 m.q, .int .i64 m.r, .int .i64 m.s]] w fun e w' => e = .returned (.tuple #[.agg #[.int .i64 (axC k i m).a, .int .i64 (axC k i m).b, .int .i64 (axC k i m).c, .int .i64 (axC k i m).d, .int .i64 (axC k i m).e, .int .i64 (axC k i m).f, .int .i64 (axC k i m).g, .int .i64 (axC k i m).h], .bool (axB k i m)]) ∧ Below w.heap.size w w' := by
  by_cases hB : axB k i m = true
  · obtain ⟨h1, h2, n, hn, rfl, hK, hc⟩ := axB_iff hB
    rw [hB]
    rcases (show n = 0 ∨ n = 1 ∨ n = 2 by omega) with rfl | rfl | rfl
    · exact implAc_gen k 1 m w h1 (by omega) (by omega) h2 _ (fun w => by have h := act1_any k m w; rw [hK] at h; exact h) _ true (fun w => ecube_yes _ w hc)
    · exact implAc_gen k 2 m w h1 (by omega) (by omega) h2 _ (fun w => by have h := act2_any k m w; rw [hK] at h; exact h) _ true (fun w => ecube_yes _ w hc)
    · exact implAc_gen k 3 m w h1 (by omega) (by omega) h2 _ (fun w => by have h := act3_any k m w; rw [hK] at h; exact h) _ true (fun w => ecube_yes _ w hc)
  · have e : axC k i m = ⟨0, 0, 0, 0, 0, 0, 0, 0⟩ := by unfold axC; rw [if_neg hB]
    have hB' : axB k i m = false := by simpa using hB
    rw [e, hB']
    dsimp only
    by_cases h1 : cuB k = true
    · by_cases h2 : i < 1 ∨ 3 < i
      · exact implAc_dir k i m w h1 h2
      · have hi : (decide (1 ≤ i) && decide (i ≤ 3)) = true := by simp; omega
        unfold axB at hB'
        rw [h1, hi, Bool.true_and, Bool.true_and] at hB'
        by_cases h3 : propB m = true
        · rw [h3, Bool.true_and] at hB'
          rcases (show i = 1 ∨ i = 2 ∨ i = 3 by omega) with rfl | rfl | rfl
          · exact implAc_gen k 1 m w h1 (by omega) (by omega) h3 _ (fun w => act1_any k m w) ⟨0, 0, 0, 0, 0, 0, 0, 0⟩ false (fun w => ecube_no _ w hB')
          · exact implAc_gen k 2 m w h1 (by omega) (by omega) h3 _ (fun w => act2_any k m w) ⟨0, 0, 0, 0, 0, 0, 0, 0⟩ false (fun w => ecube_no _ w hB')
          · exact implAc_gen k 3 m w h1 (by omega) (by omega) h3 _ (fun w => act3_any k m w) ⟨0, 0, 0, 0, 0, 0, 0, 0⟩ false (fun w => ecube_no _ w hB')
        · exact implAc_prop k i m w h1 (by omega) (by omega) (by simpa using h3)
    · exact implAc_cube k i m w (by simpa using h1)
theorem specAc_all (k : Cu) (i : Int) (m : M4) (w : World) : Calls Tryz.prog 7 #[.agg #[.int .i64 k.a, .int .i64 k.b, .int .i64 k.c, .int .i64 k.d, .int .i64 k.e, .int .i64 k.f, .int .i64 k.g, .int .i64 k.h], .int .i64 i, .agg #[.int .i64 m.p, .int .i64 m.q, .int .i64 m.r, .int .i64 m.s]] w fun e w' => e = .returned (.tuple #[.agg #[.int .i64 (axC k i m).a, .int .i64 (axC k i m).b, .int .i64 (axC k i m).c, .int .i64 (axC k i m).d, .int .i64 (axC k i m).e, .int .i64 (axC k i m).f, .int .i64 (axC k i m).g, .int .i64 (axC k i m).h], .bool (axB k i m)]) ∧ Below w.heap.size w w' := by
  by_cases hB : axB k i m = true
  · obtain ⟨h1, h2, n, hn, rfl, hK, hc⟩ := axB_iff hB
    rw [hB]
    rcases (show n = 0 ∨ n = 1 ∨ n = 2 by omega) with rfl | rfl | rfl
    · exact specAc_yes k 1 m w h1 (by omega) (by omega) h2 _ (fun w => by have h := cuAct1_any k m w; rw [hK] at h; exact h) hc
    · exact specAc_yes k 2 m w h1 (by omega) (by omega) h2 _ (fun w => by have h := cuAct2_any k m w; rw [hK] at h; exact h) hc
    · exact specAc_yes k 3 m w h1 (by omega) (by omega) h2 _ (fun w => by have h := cuAct3_any k m w; rw [hK] at h; exact h) hc
  · have e : axC k i m = ⟨0, 0, 0, 0, 0, 0, 0, 0⟩ := by unfold axC; rw [if_neg hB]
    have hB' : axB k i m = false := by simpa using hB
    rw [e, hB']
    dsimp only
    by_cases h1 : cuB k = true
    · by_cases h2 : i < 1 ∨ 3 < i
      · exact specAc_dir k i m w h1 h2
      · have hi : (decide (1 ≤ i) && decide (i ≤ 3)) = true := by simp; omega
        unfold axB at hB'
        rw [h1, hi, Bool.true_and, Bool.true_and] at hB'
        by_cases h3 : propB m = true
        · rw [h3, Bool.true_and] at hB'
          rcases (show i = 1 ∨ i = 2 ∨ i = 3 by omega) with rfl | rfl | rfl
          · exact specAc_no k 1 m w h1 (by omega) (by omega) h3 _ (fun w => cuAct1_any k m w) hB'
          · exact specAc_no k 2 m w h1 (by omega) (by omega) h3 _ (fun w => cuAct2_any k m w) hB'
          · exact specAc_no k 3 m w h1 (by omega) (by omega) h3 _ (fun w => cuAct3_any k m w) hB'
        · exact specAc_prop k i m w h1 (by omega) (by omega) (by simpa using h3)
    · exact specAc_cube k i m w (by simpa using h1)
end

section
open Go.RowKit

theorem cuB_T {k : Cu} (h : cuB k = true) : cuB (cuT k) = true := by
  have V := cuB_v h
  unfold cuB cuL cuT
  simp only [List.all_cons, List.all_nil, Bool.and_true, Bool.and_eq_true, decide_eq_true_eq]
  exact ⟨⟨V.a1, V.a2⟩, ⟨V.c1, V.c2⟩, ⟨V.e1, V.e2⟩, ⟨V.g1, V.g2⟩, ⟨V.b1, V.b2⟩, ⟨V.d1, V.d2⟩, ⟨V.f1, V.f2⟩, ⟨V.h1, V.h2⟩⟩
def SubC (f a : Fm) (m : M4) : Prop := ∀ w, Calls Tryz.prog 9 #[.agg #[.int .i64 f.a, .int .i64 f.b, .int .i64 f.c], .agg #[.int .i64 m.p, .int .i64 m.q, .int .i64 m.r, .int .i64 m.s]] w fun e w' => e = .returned (.tuple #[.agg #[.int .i64 a.a, .int .i64 a.b, .int .i64 a.c], .bool true]) ∧ Below w.heap.size w w'
/-- What the three forms tell: the one of the direction is substituted, the others stay. -/
def AxF (i : Int) (f g h a b c : Fm) (m : M4) : Prop := (i = 1 ∧ SubC f a m ∧ b = g ∧ c = h) ∨ (i = 2 ∧ SubC g b m ∧ a = f ∧ c = h) ∨ (i = 3 ∧ SubC h c m ∧ a = f ∧ b = g)
theorem ax_forms {k : Cu} {i : Int} {m : M4} (h : axB k i m = true) : cuB k = true ∧ cuB (axC k i m) = true ∧ AxF i (cuF k) (cuF2 k) (cuF3 k) (cuF (axC k i m)) (cuF2 (axC k i m)) (cuF3 (axC k i m)) m := by
  obtain ⟨h1, h2, n, hn, hi, hK, hc⟩ := axB_iff h
  have S : SubC (cuFn n k) (cuFn n (axC k i m)) m := fun w => implSub_cu k _ m n w h1 h2 hn hK hc
  have O := fun j (hj : j ≤ 2) (hne : j ≠ n) => act_other h1 h2 hn hj hK hc hne
  refine ⟨h1, hc, ?_⟩
  rcases (show n = 0 ∨ n = 1 ∨ n = 2 by omega) with rfl | rfl | rfl
  · exact .inl ⟨by omega, S, O 1 (by omega) (by omega), O 2 (by omega) (by omega)⟩
  · exact .inr (.inl ⟨by omega, S, O 0 (by omega) (by omega), O 2 (by omega) (by omega)⟩)
  · exact .inr (.inr ⟨by omega, S, O 0 (by omega) (by omega), O 1 (by omega) (by omega)⟩)
end
end Go.Proofs.YtlcegkafagdcjaaGreatDoor
