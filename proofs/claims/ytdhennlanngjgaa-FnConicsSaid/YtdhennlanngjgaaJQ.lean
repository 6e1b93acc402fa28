/- Contracts: the least solution of a triple, of both sides (written by gen_JQ.py). -/
import Derived.Test.YtdhennlanngjgaaJP
namespace Go.Proofs.Ytdhennlanngjgaa
open Go.RowKit

/-- What is left for the first number. -/
def thR (b c y z : Int) : Int := -b * y * y - c * z * z
noncomputable def thB (a b c y z : Int) : Bool := decide ((thR b c y z).tmod a = 0) && sqB ((thR b c y z).tdiv a)
noncomputable def thX (a b c y z : Int) : Int := if thB a b c y z = true then rt ((thR b c y z).tdiv a) else 0
theorem thB_yes {a b c y z : Int} (h : thB a b c y z = true) : a * (thX a b c y z * thX a b c y z) + b * (y * y) + c * (z * z) = 0 ∧ 0 ≤ thX a b c y z ∧ thX a b c y z = rt ((thR b c y z).tdiv a) ∧ 0 ≤ (thR b c y z).tdiv a := by
  have e : thX a b c y z = rt ((thR b c y z).tdiv a) := by unfold thX; rw [if_pos h]
  unfold thB sqB at h
  simp only [Bool.and_eq_true, decide_eq_true_eq] at h
  obtain ⟨h1, h2, h3⟩ := h
  rw [e]
  refine ⟨?_, (rt_spec h2).1, rfl, h2⟩
  rw [h3]
  have h4 := Int.tmod_add_mul_tdiv (thR b c y z) a
  rw [h1] at h4
  unfold thR at *
  generalize ((-b * y * y - c * z * z).tdiv a) = q at *
  grind
theorem thB_of {a b c x y z : Int} (ha : a ≠ 0) (hx : 0 ≤ x) (h : a * (x * x) + b * (y * y) + c * (z * z) = 0) : thB a b c y z = true ∧ thX a b c y z = x := by
  have e : thR b c y z = a * (x * x) := by unfold thR; grind
  have h1 : (thR b c y z).tmod a = 0 := by rw [e]; exact Int.tmod_eq_zero_of_dvd (Int.dvd_mul_right _ _)
  have h2 : (thR b c y z).tdiv a = x * x := by rw [e]; exact Int.mul_tdiv_cancel_left _ ha
  have h3 : rt (x * x) = x := rt_uniq hx rfl
  have hb : thB a b c y z = true := by
    unfold thB sqB
    rw [h2, h3, decide_eq_true h1, decide_eq_true (sq_nn x)]; simp
  refine ⟨hb, ?_⟩
  unfold thX
  rw [if_pos hb, h2, h3]
def gc3 (x y z : Int) : Int := (Int.gcd x (Int.gcd y z) : Int)
theorem gc3_iff {x y z : Int} : gc3 x y z = 1 ↔ ∀ m : Int, m ∣ x → m ∣ y → m ∣ z → m ∣ 1 := by
  unfold gc3
  constructor
  · intro h m h1 h2 h3
    have h4 : Int.gcd x (Int.gcd y z) = 1 := by omega
    obtain ⟨u, v, w, e⟩ := bez3 h4
    rw [← e]
    exact Int.dvd_add (Int.dvd_add (Int.dvd_mul_of_dvd_right h1) (Int.dvd_mul_of_dvd_right h2)) (Int.dvd_mul_of_dvd_right h3)
  · intro h
    have g1 : (Int.gcd x (Int.gcd y z) : Int) ∣ x := Int.gcd_dvd_left ..
    have g2 : (Int.gcd x (Int.gcd y z) : Int) ∣ (Int.gcd y z : Int) := Int.gcd_dvd_right ..
    have h1 := h _ g1 (Int.dvd_trans g2 (Int.gcd_dvd_left ..)) (Int.dvd_trans g2 (Int.gcd_dvd_right ..))
    have := Int.le_of_dvd (by omega) h1
    have h2 : (Int.gcd x (Int.gcd y z) : Int) ≠ 0 := fun e => by rw [e] at h1; have := Int.zero_dvd.1 h1; omega
    omega
/-- Whether the search stops at this place. -/
noncomputable def lsB (a b c y z : Int) : Bool := thB a b c y z && (decide (thX a b c y z * thX a b c y z ≤ ((b * c).natAbs : Int)) && decide (gc3 (thX a b c y z) y z = 1))
/-- No stop in the rows before z. -/
def noRow (a b c z : Int) : Prop := ∀ z' y', 0 ≤ z' → z' < z → 0 ≤ y' → y' * y' ≤ ((a * c).natAbs : Int) → lsB a b c y' z' = false
def noPt (a b c y z : Int) : Prop := ∀ y', 0 ≤ y' → y' < y → lsB a b c y' z = false
/-- What the search gives. -/
def LsR (a b c x y z : Int) (ok : Bool) : Prop :=
  (ok = true ∧ (0 ≤ y ∧ 0 ≤ z) ∧ z * z ≤ ((a * b).natAbs : Int) ∧ y * y ≤ ((a * c).natAbs : Int) ∧ lsB a b c y z = true ∧ x = thX a b c y z ∧ noRow a b c z ∧ noPt a b c y z) ∨
  (ok = false ∧ x = 0 ∧ y = 0 ∧ z = 0 ∧ ∀ z' y', 0 ≤ z' → z' * z' ≤ ((a * b).natAbs : Int) → 0 ≤ y' → y' * y' ≤ ((a * c).natAbs : Int) → lsB a b c y' z' = false)
theorem LsR.uniq {a b c x y z x' y' z' : Int} {ok ok' : Bool} (h : LsR a b c x y z ok) (k : LsR a b c x' y' z' ok') : x = x' ∧ y = y' ∧ z = z' ∧ ok = ok' := by
  rcases h with ⟨rfl, ⟨y0, z0⟩, z1, y1, hb, rfl, hr, hp⟩ | ⟨rfl, rfl, rfl, rfl, hn⟩ <;> rcases k with ⟨rfl, ⟨u0, v0⟩, v1, u1, kb, rfl, kr, kp⟩ | ⟨rfl, rfl, rfl, rfl, kn⟩
  · have ez : z = z' := by
      rcases Int.lt_trichotomy z z' with h | h | h
      · have := kr z y z0 h y0 y1; rw [hb] at this; cases this
      · exact h
      · have := hr z' y' v0 h u0 u1; rw [kb] at this; cases this
    subst ez
    have ey : y = y' := by
      rcases Int.lt_trichotomy y y' with h | h | h
      · have := kp y y0 h; rw [hb] at this; cases this
      · exact h
      · have := hp y' u0 h; rw [kb] at this; cases this
    subst ey
    exact ⟨rfl, rfl, rfl, rfl⟩
  · have := kn z y z0 z1 y0 y1; rw [hb] at this; cases this
  · have := hn z' y' v0 v1 u0 u1; rw [kb] at this; cases this
  · exact ⟨rfl, rfl, rfl, rfl⟩
/-- What LeastSolution gives. -/
def LsW (a b c x y z : Int) (ok : Bool) : Prop := ((trB a b c && nmB a b c) = false ∧ x = 0 ∧ y = 0 ∧ z = 0 ∧ ok = false) ∨ (TrI a b c ∧ nmB a b c = true ∧ LsR a b c x y z ok)
theorem LsW.uniq {a b c x y z x' y' z' : Int} {ok ok' : Bool} (h : LsW a b c x y z ok) (k : LsW a b c x' y' z' ok') : x = x' ∧ y = y' ∧ z = z' ∧ ok = ok' := by
  rcases h with ⟨h0, rfl, rfl, rfl, rfl⟩ | ⟨h1, h2, h3⟩ <;> rcases k with ⟨k0, rfl, rfl, rfl, rfl⟩ | ⟨k1, k2, k3⟩
  · exact ⟨rfl, rfl, rfl, rfl⟩
  · rw [trB_iff.2 k1, k2] at h0; cases h0
  · rw [trB_iff.2 h1, h2] at k0; cases k0
  · exact h3.uniq k3
theorem ls_sol {a b c y z : Int} (h : lsB a b c y z = true) : a * (thX a b c y z * thX a b c y z) + b * (y * y) + c * (z * z) = 0 ∧ (∀ m : Int, m ∣ thX a b c y z → m ∣ y → m ∣ z → m ∣ 1) ∧ thX a b c y z * thX a b c y z ≤ ((b * c).natAbs : Int) ∧ thB a b c y z = true := by
  unfold lsB at h
  simp only [Bool.and_eq_true, decide_eq_true_eq] at h
  exact ⟨(thB_yes h.1).1, gc3_iff.1 h.2.2, h.2.1, h.1⟩
/-- The search finds a solution just if there is no forbidding place. -/
theorem LsR.ok_iff {a b c x y z : Int} {ok : Bool} (h : LsR a b c x y z ok) (N : NrT a b c) : ok = decide (plG a b c < 0) := by
  rcases h with ⟨rfl, _, _, _, hb, rfl, _⟩ | ⟨rfl, rfl, rfl, rfl, hn⟩
  · obtain ⟨e, hm, _⟩ := ls_sol hb
    exact (decide_eq_true (N.sound e hm)).symm
  · symm
    apply decide_eq_false
    intro hp
    obtain ⟨x, y, z, e, x0, y0, z0, hx, hy, hz, hm⟩ := N.solve hp
    obtain ⟨t1, t2⟩ := thB_of N.t.a0 x0 e
    have := hn z y z0 hz y0 hy
    unfold lsB at this
    rw [t1, t2, decide_eq_true hx, decide_eq_true (gc3_iff.2 hm)] at this
    cases this
theorem ls_none {a b c : Int} (N : NrT a b c) (h : ¬ plG a b c < 0) : LsR a b c 0 0 0 false :=
  .inr ⟨rfl, rfl, rfl, rfl, fun z' y' _ _ _ _ => by
    cases hb : lsB a b c y' z' with
    | false => rfl
    | true =>
      obtain ⟨e, hm, _⟩ := ls_sol hb
      exact absurd (N.sound e hm) h⟩
theorem noRow.next {a b c z : Int} (h : noRow a b c z) (k : ∀ y', 0 ≤ y' → y' * y' ≤ ((a * c).natAbs : Int) → lsB a b c y' z = false) : noRow a b c (z + 1) := fun z' y' h1 h2 h3 h4 => by
  by_cases e : z' = z
  · subst e; exact k y' h3 h4
  · exact h z' y' h1 (by omega) h3 h4
theorem noPt.next {a b c y z : Int} (h : noPt a b c y z) (k : lsB a b c y z = false) : noPt a b c (y + 1) z := fun y' h1 h2 => by
  by_cases e : y' = y
  · subst e; exact k
  · exact h y' h1 (by omega)
theorem sq_mono {x y : Int} (hx : 0 ≤ x) (h : x ≤ y) : x * x ≤ y * y := Int.mul_le_mul h h hx (by omega)
theorem sq_out {y M : Int} (hy : 0 ≤ y) (h : ¬ y * y ≤ M) : ∀ y', 0 ≤ y' → y' * y' ≤ M → y' < y := fun y' h1 h2 => by
  apply Int.not_le.1; intro hl
  have := sq_mono hy hl
  omega
theorem noPt.row {a b c y z : Int} (h : noPt a b c y z) (hy : 0 ≤ y) (ho : ¬ y * y ≤ ((a * c).natAbs : Int)) : ∀ y', 0 ≤ y' → y' * y' ≤ ((a * c).natAbs : Int) → lsB a b c y' z = false := fun y' h1 h2 => h y' h1 (sq_out hy ho y' h1 h2)
theorem noRow.all {a b c z : Int} (h : noRow a b c z) (hz : 0 ≤ z) (ho : ¬ z * z ≤ ((a * b).natAbs : Int)) : LsR a b c 0 0 0 false :=
  .inr ⟨rfl, rfl, rfl, rfl, fun z' y' h1 h2 h3 h4 => h z' y' h1 (sq_out hz ho z' h1 h2) h3 h4⟩
theorem sq_400 {y M : Int} (hM : M ≤ 160000) (h : y * y ≤ M) : y ≤ 400 := by
  apply Int.not_lt.1; intro hl
  have := Int.mul_le_mul (show (401 : Int) ≤ y by omega) (show (401 : Int) ≤ y by omega) (by omega) (by omega)
  omega
theorem nab {x : Int} (h : -160000 ≤ x ∧ x ≤ 160000) : ((x.natAbs : Nat) : Int) ≤ 160000 := by omega
/-- The bounds of what is left. -/
theorem th_bd {b c y z : Int} (hb : -400 ≤ b ∧ b ≤ 400) (hc : -400 ≤ c ∧ c ≤ 400) (hy : 0 ≤ y ∧ y ≤ 400) (hz : 0 ≤ z ∧ z ≤ 400) :
    (-160000 ≤ -b * y ∧ -b * y ≤ 160000) ∧ (-64000000 ≤ -b * y * y ∧ -b * y * y ≤ 64000000) ∧ (-160000 ≤ c * z ∧ c * z ≤ 160000) ∧ (-64000000 ≤ c * z * z ∧ c * z * z ≤ 64000000) := by
  have f : ∀ u v : Int, ∀ M : Nat, (u.natAbs : Int) ≤ M → (0 ≤ v ∧ v ≤ 400) → -(M * 400 : Int) ≤ u * v ∧ u * v ≤ (M * 400 : Int) := fun u v M hu hv => by
    have e : (u * v).natAbs = u.natAbs * v.natAbs := Int.natAbs_mul u v
    have h2 : u.natAbs * v.natAbs ≤ M * 400 := Nat.mul_le_mul (by omega) (by omega)
    omega
  have h1 := f (-b) y 400 (by omega) hy
  have h2 := f (-b * y) y 160000 (by omega) hy
  have h3 := f c z 400 (by omega) hz
  have h4 := f (c * z) z 160000 (by omega) hz
  omega
theorem tdv_bd {R a M : Int} (h1 : -M ≤ R) (h2 : R ≤ M) : -M ≤ R.tdiv a ∧ R.tdiv a ≤ M := by
  have e : (R.tdiv a).natAbs = R.natAbs / a.natAbs := Int.natAbs_tdiv R a
  have h : R.natAbs / a.natAbs ≤ R.natAbs := Nat.div_le_self _ _
  omega
theorem rt_le {q : Int} (h0 : 0 ≤ q) (h : q ≤ 128000000) : rt q ≤ 12000 := by
  obtain ⟨h1, h2, _⟩ := rt_spec h0
  apply Int.not_lt.1; intro hl
  have := Int.mul_le_mul (show (12001 : Int) ≤ rt q by omega) (show (12001 : Int) ≤ rt q by omega) (by omega) (by omega)
  omega

set_option maxRecDepth 100000 in
set_option maxHeartbeats 6400000 in
theorem third_any (a b c y z : Int) (w : World) (h : TrI a b c) (hy : 0 ≤ y ∧ y ≤ 400) (hz : 0 ≤ z ∧ z ≤ 400) :
    Calls Try.prog 32 #[.agg #[.int .i64 a, .int .i64 b, .int .i64 c], .int .i64 y, .int .i64 z] w fun e w' => e = .returned (.tuple #[.int .i64 (thX a b c y z), .bool (thB a b c y z)]) ∧ Below w.heap.size w w' := by
  have bd := th_bd h.b1 h.c1 hy hz
  have a0 := h.a0
  have a0' : (a == 0) = false := by rw [beq_eq_false_iff_ne]; exact a0
  obtain ⟨b1, b2⟩ := h.b1
  obtain ⟨bd1, bd2, bd3, bd4⟩ := bd
  have W1 := Lib.hid (show wrap64 (-b) = -b from IntWalk.wrap64_in _ (by omega))
  have W2 := Lib.hid (show wrap64 (-b * y) = -b * y from IntWalk.wrap64_in _ (by omega))
  have W3 := Lib.hid (show wrap64 (-b * y * y) = -b * y * y from IntWalk.wrap64_in _ (by omega))
  have W4 := Lib.hid (show wrap64 (c * z) = c * z from IntWalk.wrap64_in _ (by omega))
  have W5 := Lib.hid (show wrap64 (c * z * z) = c * z * z from IntWalk.wrap64_in _ (by omega))
  have W6 := Lib.hid (show wrap64 (-b * y * y - c * z * z) = -b * y * y - c * z * z from IntWalk.wrap64_in _ (by omega))
  obtain ⟨R, hR⟩ : ∃ R, thR b c y z = R := ⟨_, rfl⟩
  have eR := Lib.hid (show -b * y * y - c * z * z = R from hR)
  have rb : -128000000 ≤ R ∧ R ≤ 128000000 := by rw [← hR]; unfold thR; omega
  have qb := tdv_bd (a := a) rb.1 rb.2
  have W8 := Lib.hid (show wrap64 R = R from IntWalk.wrap64_in _ (by omega))
  obtain ⟨Q, hQ⟩ : ∃ Q, R.tdiv a = Q := ⟨_, rfl⟩
  have W7 := Lib.hid (show wrap64 (R.tdiv a) = Q by rw [hQ]; exact IntWalk.wrap64_in _ (by omega))
  have W9 := Lib.hid (show wrap64 Q = Q from IntWalk.wrap64_in _ (by omega))
  have hS := Lib.hid (fun w => isSquare_any Q w (by omega))
  have hT := Lib.hid (fun w (h : 0 ≤ Q) => root_any Q w h (by omega))
  have HX := Lib.hid (show thB a b c y z = (decide (R.tmod a = 0) && sqB Q) by unfold thB; rw [hR, hQ])
  have HY := Lib.hid (show thX a b c y z = if thB a b c y z = true then rt Q else 0 by unfold thX; rw [hR, hQ])
  have HS := Lib.hid (fun h : sqB Q = true => (by unfold sqB at h; simp only [Bool.and_eq_true, decide_eq_true_eq] at h; exact h.1 : 0 ≤ Q))
  by_cases hd : R.tmod a = 0
  · have d1 : (R.tmod a != 0) = false := by rw [bne_eq_false_iff_eq]; exact hd
    have HX2 := Lib.hid (show thB a b c y z = sqB Q by rw [HX.out, decide_eq_true hd]; rfl)
    cases hq : sqB Q with
    | true =>
      have hT2 := Lib.hid (fun w => hT.out w (HS.out hq))
      have e1 : thB a b c y z = true := by rw [HX2.out, hq]
      have e2 : thX a b c y z = rt Q := by rw [HY.out, e1]; rfl
      rw [e1, e2]
      rw [hq] at hS
      clear HX HX2 HY HS hT e1 e2 hq hR hd bd1 bd2 bd3 bd4 rb qb h hy hz
      have V1 := W1.out; have V2 := W2.out; have V3 := W3.out; have V4 := W4.out; have V5 := W5.out; have V6 := W6.out; have V7 := W7.out; have V8 := W8.out; have V9 := W9.out; have U1 := eR.out
      clear W1 W2 W3 W4 W5 W6 W7 W8 W9 eR
      generalize rt Q = x at *
      go_enter Try.func32, Try.ntmps32
      go_wp2_with (first | (go_at_call 59; (with_reducible refine (hS.out _).mono ?_); rintro e v ⟨rfl, rfl⟩) | (go_at_call 60; (with_reducible refine (hT2.out _).mono ?_); rintro e v ⟨rfl, rfl⟩))
      go_ret2
      exact ⟨rfl, (by repeat (first | with_reducible exact Below.refl _ _ | with_reducible assumption | with_reducible apply Below.drew | with_reducible apply below_drewN | (with_reducible apply below_setp; (first | omega | (simp <;> omega))) | (with_reducible apply below_allocp; (first | omega | (simp <;> omega))) | (with_reducible refine below_viap (by assumption) ?_ ?_; (first | omega | (simp <;> omega)))))⟩
    | false =>
      have e1 : thB a b c y z = false := by rw [HX2.out, hq]
      have e2 : thX a b c y z = 0 := by rw [HY.out, e1]; rfl
      rw [e1, e2]
      rw [hq] at hS
      clear HX HX2 HY HS hT e1 e2 hq hR hd bd1 bd2 bd3 bd4 rb qb h hy hz
      have V1 := W1.out; have V2 := W2.out; have V3 := W3.out; have V4 := W4.out; have V5 := W5.out; have V6 := W6.out; have V7 := W7.out; have V8 := W8.out; have V9 := W9.out; have U1 := eR.out
      clear W1 W2 W3 W4 W5 W6 W7 W8 W9 eR
      go_enter Try.func32, Try.ntmps32
      go_wp2_with (go_at_call 59; (with_reducible refine (hS.out _).mono ?_); rintro e v ⟨rfl, rfl⟩)
      go_ret2
      exact ⟨rfl, (by repeat (first | with_reducible exact Below.refl _ _ | with_reducible assumption | with_reducible apply Below.drew | with_reducible apply below_drewN | (with_reducible apply below_setp; (first | omega | (simp <;> omega))) | (with_reducible apply below_allocp; (first | omega | (simp <;> omega))) | (with_reducible refine below_viap (by assumption) ?_ ?_; (first | omega | (simp <;> omega)))))⟩
  · have d1 : (R.tmod a != 0) = true := by rw [bne_iff_ne]; exact hd
    have e1 : thB a b c y z = false := by rw [HX.out, decide_eq_false hd]; rfl
    have e2 : thX a b c y z = 0 := by rw [HY.out, e1]; rfl
    rw [e1, e2]
    clear HX HY HS hT e1 e2 hR hd bd1 bd2 bd3 bd4 rb qb h hy hz hS
    have V1 := W1.out; have V2 := W2.out; have V3 := W3.out; have V4 := W4.out; have V5 := W5.out; have V6 := W6.out; have V7 := W7.out; have V8 := W8.out; have V9 := W9.out; have U1 := eR.out
    clear W1 W2 W3 W4 W5 W6 W7 W8 W9 eR
    go_enter Try.func32, Try.ntmps32
    go_wp2
    go_ret2
    exact ⟨rfl, (by repeat (first | with_reducible exact Below.refl _ _ | with_reducible assumption | with_reducible apply Below.drew | with_reducible apply below_drewN | (with_reducible apply below_setp; (first | omega | (simp <;> omega))) | (with_reducible apply below_allocp; (first | omega | (simp <;> omega))) | (with_reducible refine below_viap (by assumption) ?_ ?_; (first | omega | (simp <;> omega)))))⟩

/-- The bounds of the three summands at a solution. -/
theorem is_bd {a x : Int} (ha : -400 ≤ a ∧ a ≤ 400) (hx : 0 ≤ x ∧ x ≤ 12000) : (-4800000 ≤ a * x ∧ a * x ≤ 4800000) ∧ (-57600000000 ≤ a * x * x ∧ a * x * x ≤ 57600000000) := by
  have f : ∀ u v : Int, ∀ M : Nat, (u.natAbs : Int) ≤ M → (0 ≤ v ∧ v ≤ 12000) → -(M * 12000 : Int) ≤ u * v ∧ u * v ≤ (M * 12000 : Int) := fun u v M hu hv => by
    have e : (u * v).natAbs = u.natAbs * v.natAbs := Int.natAbs_mul u v
    have h2 : u.natAbs * v.natAbs ≤ M * 12000 := Nat.mul_le_mul (by omega) (by omega)
    omega
  have h1 := f a x 400 (by omega) hx
  have h2 := f (a * x) x 4800000 (by omega) hx
  omega
def nzB (x y z : Int) : Bool := (x != 0) || ((y != 0) || (z != 0))
theorem gc3_nz {x y z : Int} (h : nzB x y z = false) : ¬ gc3 x y z = 1 := by
  unfold nzB at h
  simp at h
  obtain ⟨rfl, rfl, rfl⟩ := h
  decide
set_option maxRecDepth 100000 in
set_option maxHeartbeats 6400000 in
theorem cnIs_any (a b c x y z : Int) (w : World) (h : TrI a b c) (hx : 0 ≤ x ∧ x ≤ 12000) (hy : 0 ≤ y ∧ y ≤ 400) (hz : 0 ≤ z ∧ z ≤ 400) (e : a * (x * x) + b * (y * y) + c * (z * z) = 0) :
    Calls Try.prog 66 #[.agg #[.int .i64 a, .int .i64 b, .int .i64 c], .agg #[.int .i64 x, .int .i64 y, .int .i64 z]] w fun e w' => e = .returned (.bool (nzB x y z)) ∧ Below w.heap.size w w' := by
  obtain ⟨x1, x2⟩ := is_bd h.a1 hx
  obtain ⟨y1, y2⟩ := is_bd h.b1 (show 0 ≤ y ∧ y ≤ 12000 by omega)
  obtain ⟨z1, z2⟩ := is_bd h.c1 (show 0 ≤ z ∧ z ≤ 12000 by omega)
  have E : a * x * x + b * y * y + c * z * z = 0 := by grind
  have V1 := Lib.hid (show wrap64 (a * x) = a * x from IntWalk.wrap64_in _ (by omega))
  have V2 := Lib.hid (show wrap64 (a * x * x) = a * x * x from IntWalk.wrap64_in _ (by omega))
  have V3 := Lib.hid (show wrap64 (b * y) = b * y from IntWalk.wrap64_in _ (by omega))
  have V4 := Lib.hid (show wrap64 (b * y * y) = b * y * y from IntWalk.wrap64_in _ (by omega))
  have V5 := Lib.hid (show wrap64 (c * z) = c * z from IntWalk.wrap64_in _ (by omega))
  have V6 := Lib.hid (show wrap64 (c * z * z) = c * z * z from IntWalk.wrap64_in _ (by omega))
  have V7 := Lib.hid (show wrap64 (a * x * x + b * y * y) = a * x * x + b * y * y from IntWalk.wrap64_in _ (by omega))
  have V8 := Lib.hid (show wrap64 (a * x * x + b * y * y + c * z * z) = 0 by rw [E]; exact IntWalk.wrap64_in _ (by omega))
  clear x1 x2 y1 y2 z1 z2 E e h hx hy hz
  have W1 := V1.out; have W2 := V2.out; have W3 := V3.out; have W4 := V4.out; have W5 := V5.out; have W6 := V6.out; have W7 := V7.out; have W8 := V8.out
  clear V1 V2 V3 V4 V5 V6 V7 V8
  unfold nzB
  cases q1 : x != 0 <;> cases q2 : y != 0 <;> cases q3 : z != 0
  all_goals
    go_enter Try.func66, Try.ntmps66
    go_wp2
    go_ret
    exact ⟨rfl, (by repeat (first | with_reducible exact Below.refl _ _ | with_reducible assumption | with_reducible apply Below.drew | with_reducible apply below_drewN | (with_reducible apply below_setp; (first | omega | (simp <;> omega))) | (with_reducible apply below_allocp; (first | omega | (simp <;> omega))) | (with_reducible refine below_viap (by assumption) ?_ ?_; (first | omega | (simp <;> omega)))))⟩
set_option maxHeartbeats 1600000 in
theorem cnGcd_any (x y z : Int) (w : World) (hx : 0 ≤ x ∧ x ≤ 12000) (hy : 0 ≤ y ∧ y ≤ 12000) (hz : 0 ≤ z ∧ z ≤ 12000) :
    Calls Try.prog 37 #[.agg #[.int .i64 x, .int .i64 y, .int .i64 z]] w fun e w' => e = .returned (.int .i64 (gc3 x y z)) ∧ Below w.heap.size w w' := by
  have hg : (Int.gcd x y : Int) ≤ 4000000000000000000 := by
    by_cases h0 : x = 0
    · subst h0; simp; omega
    · have := Int.gcd_le_natAbs_left (b := y) h0; omega
  have hg0 : (0 : Int) ≤ Int.gcd x y := by omega
  have e0 := Lib.hid (show (Int.gcd (Int.gcd x y) z : Int) = gc3 x y z by unfold gc3; rw [Int.gcd_assoc])
  go_enter Try.func37, Try.ntmps37
  go_wp2
  refine wp_region_calm 9 (Below (w.heap.size + 1) _) (by kernel_rfl) (by kernel_rfl) ((Below.refl _ _).drew) ?_
  simp only [List.take_succ_cons, List.take_zero, List.drop_succ_cons, List.drop_zero]
  repeat (first | (apply wpCalm_go; go_simp; (intro w' hw' hcc hff; go_simp; first | exact rfl | (refine (nuGcd_any _ _ _ (by omega) (by omega) (by omega) (by omega)).mono ?_; rintro e w1 ⟨rfl, hb⟩; exact ⟨rfl, calm_call_draws hw' hb⟩)); (intro K hK; go_simp; refine hK _ ?_; clear hK K)) | (apply wpCalm_skip; go_simp; (try (focus (simp [undef]; done))); (intro K hK; go_simp; refine hK _ ?_; clear hK K)))
  refine wpCalm_nil ?_
  intro w1 hw1
  have hcc := (calm_cells hw1).1
  have hff := (calm_cells hw1).2
  have hss := calm_size hw1
  have hsz := hw1.size
  (try simp at hsz)
  go_wp2
  go_ret
  exact ⟨ret_int e0.out, (by repeat (first | with_reducible exact Below.refl _ _ | with_reducible assumption | with_reducible apply Below.drew | with_reducible apply below_drewN | (with_reducible apply below_setp; (first | omega | (simp <;> omega))) | (with_reducible apply below_allocp; (first | omega | (simp <;> omega))) | (with_reducible refine below_viap (by assumption) ?_ ?_; (first | omega | (simp <;> omega)))))⟩

/-- What cnX gives. -/
noncomputable def xpV (a b c y z : Int) (u : Int) : Int := if thB a b c y z = true then u else 0
noncomputable def xpB (a b c y z : Int) : Bool := thB a b c y z && nzB (thX a b c y z) y z
set_option maxRecDepth 100000 in
set_option maxHeartbeats 6400000 in
theorem cnX_any (a b c y z : Int) (w : World) (h : TrI a b c) (hy : 0 ≤ y ∧ y ≤ 400) (hz : 0 ≤ z ∧ z ≤ 400) :
    Calls Try.prog 36 #[.agg #[.int .i64 a, .int .i64 b, .int .i64 c], .int .i64 y, .int .i64 z] w fun e w' => e = .returned (.tuple #[.agg #[.int .i64 (thX a b c y z), .int .i64 (xpV a b c y z y), .int .i64 (xpV a b c y z z)], .bool (xpB a b c y z)]) ∧ Below w.heap.size w w' := by
  have bd := th_bd h.b1 h.c1 hy hz
  have a0 := h.a0
  have a0' : (a == 0) = false := by rw [beq_eq_false_iff_ne]; exact a0
  obtain ⟨b1, b2⟩ := h.b1
  obtain ⟨bd1, bd2, bd3, bd4⟩ := bd
  have W1 := Lib.hid (show wrap64 (-b) = -b from IntWalk.wrap64_in _ (by omega))
  have W2 := Lib.hid (show wrap64 (-b * y) = -b * y from IntWalk.wrap64_in _ (by omega))
  have W3 := Lib.hid (show wrap64 (-b * y * y) = -b * y * y from IntWalk.wrap64_in _ (by omega))
  have W4 := Lib.hid (show wrap64 (c * z) = c * z from IntWalk.wrap64_in _ (by omega))
  have W5 := Lib.hid (show wrap64 (c * z * z) = c * z * z from IntWalk.wrap64_in _ (by omega))
  have W6 := Lib.hid (show wrap64 (-b * y * y - c * z * z) = -b * y * y - c * z * z from IntWalk.wrap64_in _ (by omega))
  obtain ⟨R, hR⟩ : ∃ R, thR b c y z = R := ⟨_, rfl⟩
  have eR := Lib.hid (show -b * y * y - c * z * z = R from hR)
  have rb : -128000000 ≤ R ∧ R ≤ 128000000 := by rw [← hR]; unfold thR; omega
  have qb := tdv_bd (a := a) rb.1 rb.2
  have W8 := Lib.hid (show wrap64 R = R from IntWalk.wrap64_in _ (by omega))
  obtain ⟨Q, hQ⟩ : ∃ Q, R.tdiv a = Q := ⟨_, rfl⟩
  have W7 := Lib.hid (show wrap64 (R.tdiv a) = Q by rw [hQ]; exact IntWalk.wrap64_in _ (by omega))
  have W9 := Lib.hid (show wrap64 Q = Q from IntWalk.wrap64_in _ (by omega))
  have hS := Lib.hid (fun w => nuSquare_any Q w (by omega))
  have hT := Lib.hid (fun w (h : 0 ≤ Q) => nuRoot_any Q w h (by omega))
  have HX := Lib.hid (show thB a b c y z = (decide (R.tmod a = 0) && sqB Q) by unfold thB; rw [hR, hQ])
  have HY := Lib.hid (show thX a b c y z = if thB a b c y z = true then rt Q else 0 by unfold thX; rw [hR, hQ])
  have HS := Lib.hid (fun h : sqB Q = true => (by unfold sqB at h; simp only [Bool.and_eq_true, decide_eq_true_eq] at h; exact h.1 : 0 ≤ Q))
  have HI := Lib.hid (fun x w hx e => cnIs_any a b c x y z w h hx hy hz e)
  by_cases hd : R.tmod a = 0
  · have d1 : (R.tmod a != 0) = false := by rw [bne_eq_false_iff_eq]; exact hd
    have HX2 := Lib.hid (show thB a b c y z = sqB Q by rw [HX.out, decide_eq_true hd]; rfl)
    cases hq : sqB Q with
    | true =>
      have q0 := HS.out hq
      have e1 : thB a b c y z = true := by rw [HX2.out, hq]
      have e2 : thX a b c y z = rt Q := by rw [HY.out, e1]; rfl
      have e3 := (thB_yes e1).1
      have HI2 := Lib.hid (fun w => HI.out (rt Q) w ⟨(rt_spec q0).1, rt_le q0 (by omega)⟩ (e2 ▸ e3))
      have hT2 := Lib.hid (fun w => (show Calls Try.prog 65 #[.int .i64 Q] w (fun e w' => e = .returned (.int .i64 (rt Q)) ∧ w = w') from (hT.out w q0).mono (by
        rintro e w' ⟨⟨r, rfl, r0, _, r1, r2⟩, rfl⟩
        rw [rt_of q0 r0 r1 r2]; exact ⟨rfl, rfl⟩)))
      have e4 : xpB a b c y z = nzB (rt Q) y z := by unfold xpB; rw [e1, e2]; rfl
      have e5 : ∀ u, xpV a b c y z u = u := fun u => by unfold xpV; rw [e1]; rfl
      rw [e2, e4, e5, e5]
      rw [hq] at hS
      clear HX HX2 HY HS HI hT e1 e2 e3 e4 e5 q0 hq hR hd bd1 bd2 bd3 bd4 rb qb h hy hz
      have V1 := W1.out; have V2 := W2.out; have V3 := W3.out; have V4 := W4.out; have V5 := W5.out; have V6 := W6.out; have V7 := W7.out; have V8 := W8.out; have V9 := W9.out; have U1 := eR.out
      clear W1 W2 W3 W4 W5 W6 W7 W8 W9 eR
      generalize nzB (rt Q) y z = r at *
      generalize rt Q = x at *
      go_enter Try.func36, Try.ntmps36
      go_wp2_with (first | (go_at_call 64; (with_reducible refine (hS.out _).mono ?_); rintro e v ⟨rfl, rfl⟩) | (go_at_call 65; (with_reducible refine (hT2.out _).mono ?_); rintro e v ⟨rfl, rfl⟩))
      go_region_held3 (fun w' => w'.cell? ⟨w.heap.size, 0, none⟩ = some (.int .i64 (a)) ∧ w'.cell? ⟨w.heap.size, 1, none⟩ = some (.int .i64 (b)) ∧ w'.cell? ⟨w.heap.size, 2, none⟩ = some (.int .i64 (c)) ∧ w'.cell? ⟨w.heap.size + 1 + 1, 0, none⟩ = some (.int .i64 (x)) ∧ w'.cell? ⟨w.heap.size + 1 + 1, 1, none⟩ = some (.int .i64 (y)) ∧ w'.cell? ⟨w.heap.size + 1 + 1, 2, none⟩ = some (.int .i64 (z))) (first | (go_keep; done) | (go_simp; done)) ((go_at_call 66; (with_reducible refine (HI2.out _).mono ?_); rintro e h1 ⟨rfl, hb1⟩; have hcc := (calm_cells hb1).1; have hff := (calm_cells hb1).2; have hsz1 := hb1.size; (try simp at hsz1); have g1_0 := fun o => hcc (w.heap.size) o (by first | omega | (simp <;> omega)); have g1_1 := fun o => hff (w.heap.size) o (by first | omega | (simp <;> omega)); have g1_2 := fun o => hcc (w.heap.size + 1 + 1) o (by first | omega | (simp <;> omega)); have g1_3 := fun o => hff (w.heap.size + 1 + 1) o (by first | omega | (simp <;> omega)); have g1_4 := fun o => hcc (w.heap.size + 1) o (by first | omega | (simp <;> omega)); have g1_5 := fun o => hff (w.heap.size + 1) o (by first | omega | (simp <;> omega)); clear hcc hff))
      go_wp2
      exact bodyPost_ret (v := .tuple #[.agg #[.int .i64 x, .int .i64 y, .int .i64 z], .bool r]) (by simp [results, Try.results36, go_sem, *]) rfl ⟨rfl, (by repeat (first | with_reducible exact Below.refl _ _ | with_reducible assumption | with_reducible apply Below.drew | with_reducible apply below_drewN | (with_reducible apply below_setp; (first | omega | (simp <;> omega))) | (with_reducible apply below_allocp; (first | omega | (simp <;> omega))) | (with_reducible refine below_viap (by assumption) ?_ ?_; (first | omega | (simp <;> omega)))))⟩
    | false =>
      have e1 : thB a b c y z = false := by rw [HX2.out, hq]
      have e2 : thX a b c y z = 0 := by rw [HY.out, e1]; rfl
      have e4 : xpB a b c y z = false := by unfold xpB; rw [e1]; rfl
      have e5 : ∀ u, xpV a b c y z u = 0 := fun u => by unfold xpV; rw [e1]; rfl
      rw [e2, e4, e5, e5]
      rw [hq] at hS
      clear HX HX2 HY HS HI hT e1 e2 e4 e5 hq hR hd bd1 bd2 bd3 bd4 rb qb h hy hz
      have V1 := W1.out; have V2 := W2.out; have V3 := W3.out; have V4 := W4.out; have V5 := W5.out; have V6 := W6.out; have V7 := W7.out; have V8 := W8.out; have V9 := W9.out; have U1 := eR.out
      clear W1 W2 W3 W4 W5 W6 W7 W8 W9 eR
      go_enter Try.func36, Try.ntmps36
      go_wp2_with (go_at_call 64; (with_reducible refine (hS.out _).mono ?_); rintro e v ⟨rfl, rfl⟩)
      exact bodyPost_ret (v := .tuple #[.agg #[.int .i64 0, .int .i64 0, .int .i64 0], .bool false]) (by simp [results, Try.results36, go_sem, *]) rfl ⟨rfl, (by repeat (first | with_reducible exact Below.refl _ _ | with_reducible assumption | with_reducible apply Below.drew | with_reducible apply below_drewN | (with_reducible apply below_setp; (first | omega | (simp <;> omega))) | (with_reducible apply below_allocp; (first | omega | (simp <;> omega))) | (with_reducible refine below_viap (by assumption) ?_ ?_; (first | omega | (simp <;> omega)))))⟩
  · have d1 : (R.tmod a != 0) = true := by rw [bne_iff_ne]; exact hd
    have e1 : thB a b c y z = false := by rw [HX.out, decide_eq_false hd]; rfl
    have e2 : thX a b c y z = 0 := by rw [HY.out, e1]; rfl
    have e4 : xpB a b c y z = false := by unfold xpB; rw [e1]; rfl
    have e5 : ∀ u, xpV a b c y z u = 0 := fun u => by unfold xpV; rw [e1]; rfl
    rw [e2, e4, e5, e5]
    clear HX HY HS HI hT e1 e2 e4 e5 hR hd bd1 bd2 bd3 bd4 rb qb h hy hz hS
    have V1 := W1.out; have V2 := W2.out; have V3 := W3.out; have V4 := W4.out; have V5 := W5.out; have V6 := W6.out; have V7 := W7.out; have V8 := W8.out; have V9 := W9.out; have U1 := eR.out
    clear W1 W2 W3 W4 W5 W6 W7 W8 W9 eR
    go_enter Try.func36, Try.ntmps36
    go_wp2
    exact bodyPost_ret (v := .tuple #[.agg #[.int .i64 0, .int .i64 0, .int .i64 0], .bool false]) (by simp [results, Try.results36, go_sem, *]) rfl ⟨rfl, (by repeat (first | with_reducible exact Below.refl _ _ | with_reducible assumption | with_reducible apply Below.drew | with_reducible apply below_drewN | (with_reducible apply below_setp; (first | omega | (simp <;> omega))) | (with_reducible apply below_allocp; (first | omega | (simp <;> omega))) | (with_reducible refine below_viap (by assumption) ?_ ?_; (first | omega | (simp <;> omega)))))⟩
end Go.Proofs.Ytdhennlanngjgaa
