/- Parts RP RM DG DJ laid together by tp.py. -/
import Derived.Test.YtlcegkafagdcjaaGreatDoorCA
import Derived.Test.YtlcegkafagdcjaaGreatDoorUB
import Derived.Test.YtlcegkafagdcjaaGreatDoorN5
import Derived.BigQuiet
namespace Go.Proofs.YtlcegkafagdcjaaGreatDoor
section

/-- A matrix. -/
structure M4 where
  p : Int
  q : Int
  r : Int
  s : Int
def M4.mul (m n : M4) : M4 := ⟨m.p * n.p + m.q * n.r, m.p * n.q + m.q * n.s, m.r * n.p + m.s * n.r, m.r * n.q + m.s * n.s⟩
def M4.one : M4 := ⟨1, 0, 0, 1⟩
def M4.det (m : M4) : Int := m.p * m.s - m.q * m.r
/-- The matrix of a step. -/
def stM (f : Fm) : M4 := ⟨if isNorm f.a f.b then 0 else 1, if isNorm f.a f.b then -1 else tr f.a f.b, if isNorm f.a f.b then 1 else 0, if isNorm f.a f.b then 0 else 1⟩
def actM (f : Fm) (m : M4) : Fm := ⟨atF f.a f.b f.c m.p m.r, polF f.a f.b f.c m.p m.r m.q m.s, atF f.a f.b f.c m.q m.s⟩
theorem act_mul (f : Fm) (m n : M4) : actM (actM f m) n = actM f (m.mul n) := by
  unfold actM atF polF M4.mul
  simp only [Fm.mk.injEq]
  refine ⟨?_, ?_, ?_⟩ <;> grind
theorem act_one (f : Fm) : actM f M4.one = f := by
  unfold actM atF polF M4.one
  obtain ⟨a, b, c⟩ := f
  simp
theorem det_mul (m n : M4) : (m.mul n).det = m.det * n.det := by
  unfold M4.mul M4.det
  grind
theorem det_st (f : Fm) : (stM f).det = 1 := by
  unfold stM M4.det
  split <;> simp
theorem act_st {f : Fm} (h : Def M0 f) : stepF f = actM f (stM f) := (step_sub h).2.2.2
def redMN : Nat → Fm → M4 → M4
  | 0, _, m => m
  | k + 1, f, m => if isRed f.a f.b f.c then m else redMN k (stepF f) (m.mul (stM f))
theorem redMN_more {M : Int} : ∀ (n : Nat) (f : Fm) (m : M4), Def M f → mu f < n → ∀ k, mu f < k → redMN k f m = redMN n f m := by
  intro n
  induction n with
  | zero => intro f _ _ h; omega
  | succ n ih =>
    intro f m h hm k hk
    match k with
    | 0 => omega
    | k + 1 =>
      cases hr : isRed f.a f.b f.c with
      | true => simp [redMN, hr]
      | false =>
        have hs := mu_step h hr
        have := ih (stepF f) (m.mul (stM f)) (def_step h) (by omega) k (by omega)
        simpa [redMN, hr] using this
/-- The matrix that the reduction of f makes, from m on. -/
def redM (f : Fm) (m : M4) : M4 := redMN (mu f + 1) f m
theorem redM_of {f : Fm} {m : M4} (hr : isRed f.a f.b f.c = true) : redM f m = m := by simp [redM, redMN, hr]
theorem redM_step {M : Int} {f : Fm} {m : M4} (h : Def M f) (hr : isRed f.a f.b f.c = false) : redM (stepF f) (m.mul (stM f)) = redM f m := by
  have hs := mu_step h hr
  have e : redM f m = redMN (mu f) (stepF f) (m.mul (stM f)) := by simp [redM, redMN, hr]
  rw [e]
  exact redMN_more (mu f) _ _ (def_step h) hs _ (by omega)
theorem def_mono {M N : Int} {f : Fm} (h : Def M f) (hM : M ≤ N) : Def N f := ⟨h.a0, by have := h.aM; omega, h.c0, by have := h.cM; omega, h.d⟩
theorem redM_ind {M : Int} (P : Fm → M4 → Prop) (hs : ∀ g m, Def M g → isRed g.a g.b g.c = false → P g m → P (stepF g) (m.mul (stM g))) : ∀ (n : Nat) (f : Fm) (m : M4), Def M f → mu f ≤ n → P f m → P (red f) (redM f m) := by
  intro n
  induction n with
  | zero =>
    intro f m h hn hp
    cases hr : isRed f.a f.b f.c with
    | true => rw [red_of hr, redM_of hr]; exact hp
    | false => have := mu_step h hr; omega
  | succ n ih =>
    intro f m h hn hp
    cases hr : isRed f.a f.b f.c with
    | true => rw [red_of hr, redM_of hr]; exact hp
    | false =>
      have := mu_step h hr
      rw [← red_step h hr, ← redM_step h hr]
      exact ih _ _ (def_step h) (by omega) (hs f m h hr hp)
/-- The reducing matrix makes the reduced form, and its determinant is 1. -/
theorem redM_act {f : Fm} (h : Def M0 f) : actM f (redM f M4.one) = red f ∧ (redM f M4.one).det = 1 :=
  redM_ind (fun g m => actM f m = g ∧ m.det = 1) (fun g m hg _ hp => ⟨by rw [← act_mul, hp.1, act_st hg], by rw [det_mul, hp.2, det_st]; rfl⟩) _ f M4.one h (Nat.le_refl _) ⟨act_one f, rfl⟩
/-- A bound of the entries, by the values that they give. -/
theorem ent_bd {f : Fm} {x y v : Int} (hv : atF f.a f.b f.c x y = v) : (4 * (f.a * f.c) - f.b * f.b) * (y * y) ≤ 4 * (f.a * v) ∧ (4 * (f.a * f.c) - f.b * f.b) * (x * x) ≤ 4 * (f.c * v) := by
  subst hv
  unfold atF
  have h1 : 0 ≤ (2 * f.a * x + f.b * y) * (2 * f.a * x + f.b * y) := by
    rcases Int.le_total 0 (2 * f.a * x + f.b * y) with h | h
    · exact Int.mul_nonneg h h
    · exact Int.mul_nonneg_of_nonpos_of_nonpos h h
  have h2 : 0 ≤ (2 * f.c * y + f.b * x) * (2 * f.c * y + f.b * x) := by
    rcases Int.le_total 0 (2 * f.c * y + f.b * x) with h | h
    · exact Int.mul_nonneg h h
    · exact Int.mul_nonneg_of_nonpos_of_nonpos h h
  have e1 : 4 * (f.a * (f.a * x * x + f.b * x * y + f.c * y * y)) = (2 * f.a * x + f.b * y) * (2 * f.a * x + f.b * y) + (4 * (f.a * f.c) - f.b * f.b) * (y * y) := by grind
  have e2 : 4 * (f.c * (f.a * x * x + f.b * x * y + f.c * y * y)) = (2 * f.c * y + f.b * x) * (2 * f.c * y + f.b * x) + (4 * (f.a * f.c) - f.b * f.b) * (x * x) := by grind
  exact ⟨by omega, by omega⟩
theorem sq_nn (x : Int) : 0 ≤ x * x := by
  rcases Int.le_total 0 x with h | h
  · exact Int.mul_nonneg h h
  · exact Int.mul_nonneg_of_nonpos_of_nonpos h h
theorem ent_le {f : Fm} (h : Def 1000000 f) {x y v : Int} (hv : atF f.a f.b f.c x y = v) (h0 : v ≤ 1000000) : (-2000000 ≤ x ∧ x ≤ 2000000) ∧ (-2000000 ≤ y ∧ y ≤ 2000000) := by
  obtain ⟨h1, h2⟩ := ent_bd hv
  have hd := h.d
  have hx := sq_nn x
  have hy := sq_nn y
  have a0 := h.a0; have aM := h.aM; have c0 := h.c0; have cM := h.cM
  have k1 : 1 * (y * y) ≤ (4 * (f.a * f.c) - f.b * f.b) * (y * y) := Int.mul_le_mul_of_nonneg_right (by omega) hy
  have k2 : 1 * (x * x) ≤ (4 * (f.a * f.c) - f.b * f.b) * (x * x) := Int.mul_le_mul_of_nonneg_right (by omega) hx
  have k3 : f.a * v ≤ f.a * 1000000 := Int.mul_le_mul_of_nonneg_left h0 (by omega)
  have k4 : f.c * v ≤ f.c * 1000000 := Int.mul_le_mul_of_nonneg_left h0 (by omega)
  exact ⟨abs_of_sq (by omega) (by omega), abs_of_sq (by omega) (by omega)⟩
theorem ent_all {f : Fm} (h : Def 1000000 f) {m : M4} (hd : Def 1000000 (actM f m)) : (-2000000 ≤ m.p ∧ m.p ≤ 2000000) ∧ (-2000000 ≤ m.q ∧ m.q ≤ 2000000) ∧ (-2000000 ≤ m.r ∧ m.r ≤ 2000000) ∧ (-2000000 ≤ m.s ∧ m.s ≤ 2000000) := by
  have h1 := ent_le h (x := m.p) (y := m.r) rfl hd.aM
  have h2 := ent_le h (x := m.q) (y := m.s) rfl hd.cM
  exact ⟨h1.1, h2.1, h1.2, h2.2⟩
end

section
open Go.RowKit

/-- The reduced form and the matrix. -/
def RetRM (g : Fm) (m : M4) (w : World) (e : Ending) (w' : World) : Prop :=
  e = .returned (.tuple #[.agg #[.int .i64 g.a, .int .i64 g.b, .int .i64 g.c], .agg #[.int .i64 m.p, .int .i64 m.q, .int .i64 m.r, .int .i64 m.s]]) ∧ Below w.heap.size w w'
theorem retRM_mk {f g : Fm} {m n : M4} (h : f = g) (hm : m = n) {w w' : World} (hb : Below w.heap.size w w') :
    RetRM g n w (.returned (.tuple #[.agg #[.int .i64 f.a, .int .i64 f.b, .int .i64 f.c], .agg #[.int .i64 m.p, .int .i64 m.q, .int .i64 m.r, .int .i64 m.s]])) w' := by
  subst h; subst hm; exact ⟨rfl, hb⟩
/-- What the loop keeps of the form and the matrix. -/
def MatI (f0 f : Fm) (m : M4) : Prop := red f = red f0 ∧ redM f m = redM f0 M4.one ∧ actM f0 m = f
/-- What holds at the head of the loop: b4 is the block of the matrix. -/
def RedSM (f0 : Fm) (w : World) (b4 : Nat) (k : Nat) (wr : World) : Prop :=
  ∃ (f : Fm) (m : M4), Def 1000000 f ∧ Hid (MatI f0 f m) ∧ mu f ≤ k ∧ Blk wr w.heap.size 33 #[.int .i64 f.a, .int .i64 f.b, .int .i64 f.c] ∧ Blk wr (w.heap.size + 1) 33 #[.int .i64 0, .int .i64 0, .int .i64 0] ∧
    Blk wr (w.heap.size + 1 + 1) 27 #[.int .i64 0, .int .i64 0, .int .i64 0, .int .i64 0] ∧ Blk wr b4 27 #[.int .i64 m.p, .int .i64 m.q, .int .i64 m.r, .int .i64 m.s] ∧ Below w.heap.size w wr
theorem mm_in {a b c d : Int} (h1 : -2000000 ≤ a ∧ a ≤ 2000000) (h2 : -2000000 ≤ b ∧ b ≤ 2000000) (h3 : -2000000 ≤ c ∧ c ≤ 2000000) (h4 : -2000000 ≤ d ∧ d ≤ 2000000) : mm a b c d = a * b + c * d := by
  have k1 := mul_bd h1.1 h1.2 h2.1 h2.2
  have k2 := mul_bd h3.1 h3.2 h4.1 h4.2
  unfold mm
  rw [IntWalk.wrap64_in (a * b) (by omega), IntWalk.wrap64_in (c * d) (by omega), IntWalk.wrap64_in _ (by omega)]
theorem st_bd {f : Fm} (h : Def 1000000 f) : (-2000000 ≤ (stM f).p ∧ (stM f).p ≤ 2000000) ∧ (-2000000 ≤ (stM f).q ∧ (stM f).q ≤ 2000000) ∧ (-2000000 ≤ (stM f).r ∧ (stM f).r ≤ 2000000) ∧ (-2000000 ≤ (stM f).s ∧ (stM f).s ≤ 2000000) := by
  have ht := tr_bd h.a0 h.aM h.bB
  unfold stM
  refine ⟨?_, ?_, ?_, ?_⟩ <;> (dsimp only; split <;> omega)
/-- The product that Go reckons is the product. -/
theorem mm_mul {f0 f : Fm} {m : M4} (h0 : Def 1000000 f0) (hd : Def 1000000 f) (h : actM f0 m = f) :
    mm m.p (stM f).p m.q (stM f).r = (m.mul (stM f)).p ∧ mm m.p (stM f).q m.q (stM f).s = (m.mul (stM f)).q ∧ mm m.r (stM f).p m.s (stM f).r = (m.mul (stM f)).r ∧ mm m.r (stM f).q m.s (stM f).s = (m.mul (stM f)).s := by
  obtain ⟨s1, s2, s3, s4⟩ := st_bd hd
  obtain ⟨m1, m2, m3, m4⟩ := ent_all h0 (h ▸ hd : Def 1000000 (actM f0 m))
  exact ⟨mm_in m1 s1 m2 s3, mm_in m1 s2 m2 s4, mm_in m3 s1 m4 s3, mm_in m3 s2 m4 s4⟩
theorem matI_next {f0 f f' : Fm} {m m' : M4} (hd : Def 1000000 f) (hr : isRed f.a f.b f.c = false) (h : MatI f0 f m) (hf : stepF f = f') (hm : m.mul (stM f) = m') : MatI f0 f' m' := by
  subst hf; subst hm
  exact ⟨(red_step hd hr).trans h.1, (redM_step hd hr).trans h.2.1, by rw [← act_mul, h.2.2, act_st (def_mono hd (by decide))]⟩

set_option maxHeartbeats 400000 in
theorem reduce_m (f0 : Fm) (w : World) (h0 : Def 1000000 f0) :
    Calls Tryz.prog 43 #[.agg #[.int .i64 f0.a, .int .i64 f0.b, .int .i64 f0.c]] w (RetRM (red f0) (redM f0 M4.one) w) := by
  go_enter Tryz.func43, Tryz.ntmps43
  go_wp2_with (go_at_call 82; (with_reducible refine (one_any _).mono ?_); rintro e v1 ⟨rfl, hB1⟩; have hZ1 := hB1.size; (try simp at hZ1); (try have zl1 : w.heap.size < v1.heap.size := by omega); (try have ze1 : w.heap.size ≤ v1.heap.size := by omega); (try have zn1 : ¬ w.heap.size = v1.heap.size := by omega); (try have zm1 : ¬ v1.heap.size = w.heap.size := by omega); have hA1 : Blk v1 (w.heap.size) 33 #[.int .i64 f0.a, .int .i64 f0.b, .int .i64 f0.c] := Blk.call (by (repeat (first | with_reducible assumption | (with_reducible apply Blk.new_at; (first | rfl | (simp; done))) | with_reducible apply Blk.store3 | with_reducible apply Blk.store4 | (with_reducible apply Blk.farp; (first | omega | (simp <;> omega))) | with_reducible apply Blk.allocp | with_reducible apply Blk.drew | with_reducible apply Blk.drewN))) hB1; have cA1 := hA1.cell; have fA1 := hA1.frozen; have lA1 := hA1.lt; have mA1 := Nat.ne_of_gt lA1; have nA1 := Nat.ne_of_lt lA1; have hR1 : Blk v1 (w.heap.size + 1) 33 #[.int .i64 0, .int .i64 0, .int .i64 0] := Blk.call (by (repeat (first | with_reducible assumption | (with_reducible apply Blk.new_at; (first | rfl | (simp; done))) | with_reducible apply Blk.store3 | with_reducible apply Blk.store4 | (with_reducible apply Blk.farp; (first | omega | (simp <;> omega))) | with_reducible apply Blk.allocp | with_reducible apply Blk.drew | with_reducible apply Blk.drewN))) hB1; have cR1 := hR1.cell; have fR1 := hR1.frozen; have lR1 := hR1.lt; have mR1 := Nat.ne_of_gt lR1; have nR1 := Nat.ne_of_lt lR1; have hS1 : Blk v1 (w.heap.size + 1 + 1) 27 #[.int .i64 0, .int .i64 0, .int .i64 0, .int .i64 0] := Blk.call (by (repeat (first | with_reducible assumption | (with_reducible apply Blk.new_at; (first | rfl | (simp; done))) | with_reducible apply Blk.store3 | with_reducible apply Blk.store4 | (with_reducible apply Blk.farp; (first | omega | (simp <;> omega))) | with_reducible apply Blk.allocp | with_reducible apply Blk.drew | with_reducible apply Blk.drewN))) hB1; have cS1 := hS1.cell; have fS1 := hS1.frozen; have lS1 := hS1.lt; have mS1 := Nat.ne_of_gt lS1; have nS1 := Nat.ne_of_lt lS1)
  go_loopg [] (mu f0) (fun k wr => RedSM f0 w v1.heap.size k wr)
  case atStart =>
    refine ⟨f0, ⟨1, 0, 0, 1⟩, h0, Lib.hid ⟨rfl, rfl, act_one f0⟩, Nat.le_refl _, ?_, ?_, ?_, ?_, (by repeat (first | with_reducible exact Below.refl _ _ | with_reducible assumption | with_reducible apply Below.drew | with_reducible apply below_drewN | (with_reducible apply below_setp; (first | omega | (simp <;> omega))) | (with_reducible apply below_allocp; (first | omega | (simp <;> omega))) | (with_reducible refine below_viap (by assumption) ?_ ?_; (first | omega | (simp <;> omega)))))⟩
    · (repeat (first | with_reducible assumption | (with_reducible apply Blk.new_at; (first | rfl | (simp; done))) | with_reducible apply Blk.store3 | with_reducible apply Blk.store4 | (with_reducible apply Blk.farp; (first | omega | (simp <;> omega))) | with_reducible apply Blk.allocp | with_reducible apply Blk.drew | with_reducible apply Blk.drewN))
    · (repeat (first | with_reducible assumption | (with_reducible apply Blk.new_at; (first | rfl | (simp; done))) | with_reducible apply Blk.store3 | with_reducible apply Blk.store4 | (with_reducible apply Blk.farp; (first | omega | (simp <;> omega))) | with_reducible apply Blk.allocp | with_reducible apply Blk.drew | with_reducible apply Blk.drewN))
    · (repeat (first | with_reducible assumption | (with_reducible apply Blk.new_at; (first | rfl | (simp; done))) | with_reducible apply Blk.store3 | with_reducible apply Blk.store4 | (with_reducible apply Blk.farp; (first | omega | (simp <;> omega))) | with_reducible apply Blk.allocp | with_reducible apply Blk.drew | with_reducible apply Blk.drewN))
    · (repeat (first | with_reducible assumption | (with_reducible apply Blk.new_at; (first | rfl | (simp; done))) | with_reducible apply Blk.store3 | with_reducible apply Blk.store4 | (with_reducible apply Blk.farp; (first | omega | (simp <;> omega))) | with_reducible apply Blk.allocp | with_reducible apply Blk.drew | with_reducible apply Blk.drewN))
  case round =>
    obtain ⟨f, ⟨p, q, r, s⟩, hd, hr, hk, hA, hR, hS, hM, hbel⟩ := hrel
    have ha := hd.a0
    have hfar := hd.bB
    have ha2 := hd.aM
    dsimp only at hM
    have hz := hbel.size
    have cA := hA.cell; have fA := hA.frozen
    have cR := hR.cell; have fR := hR.frozen
    have cS := hS.cell; have fS := hS.frozen
    have cM := hM.cell; have fM := hM.frozen
    cases hred : isRed f.a f.b f.c with
    | true =>
      have hx := Lib.hid ((red_of hred).symm.trans hr.out.1)
      have hy := Lib.hid ((redM_of hred).symm.trans hr.out.2.1)
      go_wp2_with (first | (go_at_call 83; (with_reducible refine (isReduced_any f.a f.b f.c _ ha (by omega)).mono ?_); rw [hred]; rintro e v2 ⟨rfl, hB2⟩; have hZ2 := hB2.size; (try simp at hZ2); (try have zl2 : w.heap.size < v2.heap.size := by omega); (try have ze2 : w.heap.size ≤ v2.heap.size := by omega); (try have zn2 : ¬ w.heap.size = v2.heap.size := by omega); (try have zm2 : ¬ v2.heap.size = w.heap.size := by omega); have hA2 : Blk v2 (w.heap.size) 33 #[.int .i64 f.a, .int .i64 f.b, .int .i64 f.c] := Blk.call (by (repeat (first | with_reducible assumption | (with_reducible apply Blk.new_at; (first | rfl | (simp; done))) | with_reducible apply Blk.store3 | with_reducible apply Blk.store4 | (with_reducible apply Blk.farp; (first | omega | (simp <;> omega))) | with_reducible apply Blk.allocp | with_reducible apply Blk.drew | with_reducible apply Blk.drewN))) hB2; have cA2 := hA2.cell; have fA2 := hA2.frozen; have lA2 := hA2.lt; have mA2 := Nat.ne_of_gt lA2; have nA2 := Nat.ne_of_lt lA2; have hR2 : Blk v2 (w.heap.size + 1) 33 #[.int .i64 0, .int .i64 0, .int .i64 0] := Blk.call (by (repeat (first | with_reducible assumption | (with_reducible apply Blk.new_at; (first | rfl | (simp; done))) | with_reducible apply Blk.store3 | with_reducible apply Blk.store4 | (with_reducible apply Blk.farp; (first | omega | (simp <;> omega))) | with_reducible apply Blk.allocp | with_reducible apply Blk.drew | with_reducible apply Blk.drewN))) hB2; have cR2 := hR2.cell; have fR2 := hR2.frozen; have lR2 := hR2.lt; have mR2 := Nat.ne_of_gt lR2; have nR2 := Nat.ne_of_lt lR2; have hS2 : Blk v2 (w.heap.size + 1 + 1) 27 #[.int .i64 0, .int .i64 0, .int .i64 0, .int .i64 0] := Blk.call (by (repeat (first | with_reducible assumption | (with_reducible apply Blk.new_at; (first | rfl | (simp; done))) | with_reducible apply Blk.store3 | with_reducible apply Blk.store4 | (with_reducible apply Blk.farp; (first | omega | (simp <;> omega))) | with_reducible apply Blk.allocp | with_reducible apply Blk.drew | with_reducible apply Blk.drewN))) hB2; have cS2 := hS2.cell; have fS2 := hS2.frozen; have lS2 := hS2.lt; have mS2 := Nat.ne_of_gt lS2; have nS2 := Nat.ne_of_lt lS2; have hM2 : Blk v2 (v1.heap.size) 27 #[.int .i64 p, .int .i64 q, .int .i64 r, .int .i64 s] := Blk.call (by (repeat (first | with_reducible assumption | (with_reducible apply Blk.new_at; (first | rfl | (simp; done))) | with_reducible apply Blk.store3 | with_reducible apply Blk.store4 | (with_reducible apply Blk.farp; (first | omega | (simp <;> omega))) | with_reducible apply Blk.allocp | with_reducible apply Blk.drew | with_reducible apply Blk.drewN))) hB2; have cM2 := hM2.cell; have fM2 := hM2.frozen; have lM2 := hM2.lt; have mM2 := Nat.ne_of_gt lM2; have nM2 := Nat.ne_of_lt lM2))
      go_region
      go_wp2
      exact bodyPost_ret (v := .tuple #[.agg #[.int .i64 f.a, .int .i64 f.b, .int .i64 f.c], .agg #[.int .i64 p, .int .i64 q, .int .i64 r, .int .i64 s]]) (by simp [results, Tryz.results43, go_sem, *]) rfl (retRM_mk (m := ⟨p, q, r, s⟩) hx.out hy.out (by repeat (first | with_reducible exact Below.refl _ _ | with_reducible assumption | with_reducible apply Below.drew | with_reducible apply below_drewN | (with_reducible apply below_setp; (first | omega | (simp <;> omega))) | (with_reducible apply below_allocp; (first | omega | (simp <;> omega))) | (with_reducible refine below_viap (by assumption) ?_ ?_; (first | omega | (simp <;> omega))))))
    | false =>
      obtain ⟨k1, k2, k3, hst⟩ := step_sub (def_mono hd (show (1000000 : Int) ≤ M0 by decide))
      obtain ⟨w1', w2', w3', w4'⟩ := mm_mul h0 hd hr.out.2.2
      have hmm : M4.mul ⟨p, q, r, s⟩ (stM f) = ⟨mm p (stM f).p q (stM f).r, mm p (stM f).q q (stM f).s, mm r (stM f).p s (stM f).r, mm r (stM f).q s (stM f).s⟩ := by rw [w1', w2', w3', w4']
      have hnx := fun f' h => matI_next hd hred hr.out (f' := f') h hmm
      have hds := def_step hd
      have hmu := mu_step hd hred
      have hrs := hnx _ hst
      clear hnx hmm w1' w2' w3' w4'
      have hsx := step_any f.a f.b f.c
      rw [hst] at hds hmu
      unfold stM at hrs
      dsimp only at hrs
      clear hst
      generalize (if isNorm f.a f.b = true then (0 : Int) else 1) = mp at *
      generalize (if isNorm f.a f.b = true then (1 : Int) else 0) = mr at *
      generalize (if isNorm f.a f.b = true then (-1 : Int) else tr f.a f.b) = mq at *
      have Hsx := Lib.hid hsx
      have Hrs := Lib.hid hrs
      clear hsx hrs
      go_wp2_with (first
        | (go_at_call 83; (with_reducible refine (isReduced_any f.a f.b f.c _ ha (by omega)).mono ?_); rw [hred]; rintro e v2 ⟨rfl, hB2⟩; have hZ2 := hB2.size; (try simp at hZ2); (try have zl2 : w.heap.size < v2.heap.size := by omega); (try have ze2 : w.heap.size ≤ v2.heap.size := by omega); (try have zn2 : ¬ w.heap.size = v2.heap.size := by omega); (try have zm2 : ¬ v2.heap.size = w.heap.size := by omega); have hA2 : Blk v2 (w.heap.size) 33 #[.int .i64 f.a, .int .i64 f.b, .int .i64 f.c] := Blk.call (by (repeat (first | with_reducible assumption | (with_reducible apply Blk.new_at; (first | rfl | (simp; done))) | with_reducible apply Blk.store3 | with_reducible apply Blk.store4 | (with_reducible apply Blk.farp; (first | omega | (simp <;> omega))) | with_reducible apply Blk.allocp | with_reducible apply Blk.drew | with_reducible apply Blk.drewN))) hB2; have cA2 := hA2.cell; have fA2 := hA2.frozen; have lA2 := hA2.lt; have mA2 := Nat.ne_of_gt lA2; have nA2 := Nat.ne_of_lt lA2; have hR2 : Blk v2 (w.heap.size + 1) 33 #[.int .i64 0, .int .i64 0, .int .i64 0] := Blk.call (by (repeat (first | with_reducible assumption | (with_reducible apply Blk.new_at; (first | rfl | (simp; done))) | with_reducible apply Blk.store3 | with_reducible apply Blk.store4 | (with_reducible apply Blk.farp; (first | omega | (simp <;> omega))) | with_reducible apply Blk.allocp | with_reducible apply Blk.drew | with_reducible apply Blk.drewN))) hB2; have cR2 := hR2.cell; have fR2 := hR2.frozen; have lR2 := hR2.lt; have mR2 := Nat.ne_of_gt lR2; have nR2 := Nat.ne_of_lt lR2; have hS2 : Blk v2 (w.heap.size + 1 + 1) 27 #[.int .i64 0, .int .i64 0, .int .i64 0, .int .i64 0] := Blk.call (by (repeat (first | with_reducible assumption | (with_reducible apply Blk.new_at; (first | rfl | (simp; done))) | with_reducible apply Blk.store3 | with_reducible apply Blk.store4 | (with_reducible apply Blk.farp; (first | omega | (simp <;> omega))) | with_reducible apply Blk.allocp | with_reducible apply Blk.drew | with_reducible apply Blk.drewN))) hB2; have cS2 := hS2.cell; have fS2 := hS2.frozen; have lS2 := hS2.lt; have mS2 := Nat.ne_of_gt lS2; have nS2 := Nat.ne_of_lt lS2; have hM2 : Blk v2 (v1.heap.size) 27 #[.int .i64 p, .int .i64 q, .int .i64 r, .int .i64 s] := Blk.call (by (repeat (first | with_reducible assumption | (with_reducible apply Blk.new_at; (first | rfl | (simp; done))) | with_reducible apply Blk.store3 | with_reducible apply Blk.store4 | (with_reducible apply Blk.farp; (first | omega | (simp <;> omega))) | with_reducible apply Blk.allocp | with_reducible apply Blk.drew | with_reducible apply Blk.drewN))) hB2; have cM2 := hM2.cell; have fM2 := hM2.frozen; have lM2 := hM2.lt; have mM2 := Nat.ne_of_gt lM2; have nM2 := Nat.ne_of_lt lM2)
        | (go_at_call 84; (with_reducible refine (Hsx.out _ ha (by omega) (by omega) (by omega) hred).mono ?_); rintro e v3 ⟨rfl, hB3⟩; have hZ3 := hB3.size; (try simp at hZ3); (try have zl3 : w.heap.size < v3.heap.size := by omega); (try have ze3 : w.heap.size ≤ v3.heap.size := by omega); (try have zn3 : ¬ w.heap.size = v3.heap.size := by omega); (try have zm3 : ¬ v3.heap.size = w.heap.size := by omega); have hA3 : Blk v3 (w.heap.size) 33 #[.int .i64 f.a, .int .i64 f.b, .int .i64 f.c] := Blk.call (by (repeat (first | with_reducible assumption | (with_reducible apply Blk.new_at; (first | rfl | (simp; done))) | with_reducible apply Blk.store3 | with_reducible apply Blk.store4 | (with_reducible apply Blk.farp; (first | omega | (simp <;> omega))) | with_reducible apply Blk.allocp | with_reducible apply Blk.drew | with_reducible apply Blk.drewN))) hB3; have cA3 := hA3.cell; have fA3 := hA3.frozen; have lA3 := hA3.lt; have mA3 := Nat.ne_of_gt lA3; have nA3 := Nat.ne_of_lt lA3; have hR3 : Blk v3 (w.heap.size + 1) 33 #[.int .i64 0, .int .i64 0, .int .i64 0] := Blk.call (by (repeat (first | with_reducible assumption | (with_reducible apply Blk.new_at; (first | rfl | (simp; done))) | with_reducible apply Blk.store3 | with_reducible apply Blk.store4 | (with_reducible apply Blk.farp; (first | omega | (simp <;> omega))) | with_reducible apply Blk.allocp | with_reducible apply Blk.drew | with_reducible apply Blk.drewN))) hB3; have cR3 := hR3.cell; have fR3 := hR3.frozen; have lR3 := hR3.lt; have mR3 := Nat.ne_of_gt lR3; have nR3 := Nat.ne_of_lt lR3; have hS3 : Blk v3 (w.heap.size + 1 + 1) 27 #[.int .i64 0, .int .i64 0, .int .i64 0, .int .i64 0] := Blk.call (by (repeat (first | with_reducible assumption | (with_reducible apply Blk.new_at; (first | rfl | (simp; done))) | with_reducible apply Blk.store3 | with_reducible apply Blk.store4 | (with_reducible apply Blk.farp; (first | omega | (simp <;> omega))) | with_reducible apply Blk.allocp | with_reducible apply Blk.drew | with_reducible apply Blk.drewN))) hB3; have cS3 := hS3.cell; have fS3 := hS3.frozen; have lS3 := hS3.lt; have mS3 := Nat.ne_of_gt lS3; have nS3 := Nat.ne_of_lt lS3; have hM3 : Blk v3 (v1.heap.size) 27 #[.int .i64 p, .int .i64 q, .int .i64 r, .int .i64 s] := Blk.call (by (repeat (first | with_reducible assumption | (with_reducible apply Blk.new_at; (first | rfl | (simp; done))) | with_reducible apply Blk.store3 | with_reducible apply Blk.store4 | (with_reducible apply Blk.farp; (first | omega | (simp <;> omega))) | with_reducible apply Blk.allocp | with_reducible apply Blk.drew | with_reducible apply Blk.drewN))) hB3; have cM3 := hM3.cell; have fM3 := hM3.frozen; have lM3 := hM3.lt; have mM3 := Nat.ne_of_gt lM3; have nM3 := Nat.ne_of_lt lM3)
        | (go_at_call 36; (with_reducible refine (substitute_any f.a f.b f.c mp mq mr mp _ k1 k2 k3).mono ?_); rintro e v4 ⟨rfl, hB4⟩; have hZ4 := hB4.size; (try simp at hZ4); (try have zl4 : w.heap.size < v4.heap.size := by omega); (try have ze4 : w.heap.size ≤ v4.heap.size := by omega); (try have zn4 : ¬ w.heap.size = v4.heap.size := by omega); (try have zm4 : ¬ v4.heap.size = w.heap.size := by omega); have hA4 : Blk v4 (w.heap.size) 33 #[.int .i64 f.a, .int .i64 f.b, .int .i64 f.c] := Blk.call (by (repeat (first | with_reducible assumption | (with_reducible apply Blk.new_at; (first | rfl | (simp; done))) | with_reducible apply Blk.store3 | with_reducible apply Blk.store4 | (with_reducible apply Blk.farp; (first | omega | (simp <;> omega))) | with_reducible apply Blk.allocp | with_reducible apply Blk.drew | with_reducible apply Blk.drewN))) hB4; have cA4 := hA4.cell; have fA4 := hA4.frozen; have lA4 := hA4.lt; have mA4 := Nat.ne_of_gt lA4; have nA4 := Nat.ne_of_lt lA4; have hR4 : Blk v4 (w.heap.size + 1) 33 #[.int .i64 0, .int .i64 0, .int .i64 0] := Blk.call (by (repeat (first | with_reducible assumption | (with_reducible apply Blk.new_at; (first | rfl | (simp; done))) | with_reducible apply Blk.store3 | with_reducible apply Blk.store4 | (with_reducible apply Blk.farp; (first | omega | (simp <;> omega))) | with_reducible apply Blk.allocp | with_reducible apply Blk.drew | with_reducible apply Blk.drewN))) hB4; have cR4 := hR4.cell; have fR4 := hR4.frozen; have lR4 := hR4.lt; have mR4 := Nat.ne_of_gt lR4; have nR4 := Nat.ne_of_lt lR4; have hS4 : Blk v4 (w.heap.size + 1 + 1) 27 #[.int .i64 0, .int .i64 0, .int .i64 0, .int .i64 0] := Blk.call (by (repeat (first | with_reducible assumption | (with_reducible apply Blk.new_at; (first | rfl | (simp; done))) | with_reducible apply Blk.store3 | with_reducible apply Blk.store4 | (with_reducible apply Blk.farp; (first | omega | (simp <;> omega))) | with_reducible apply Blk.allocp | with_reducible apply Blk.drew | with_reducible apply Blk.drewN))) hB4; have cS4 := hS4.cell; have fS4 := hS4.frozen; have lS4 := hS4.lt; have mS4 := Nat.ne_of_gt lS4; have nS4 := Nat.ne_of_lt lS4; have hM4 : Blk v4 (v1.heap.size) 27 #[.int .i64 p, .int .i64 q, .int .i64 r, .int .i64 s] := Blk.call (by (repeat (first | with_reducible assumption | (with_reducible apply Blk.new_at; (first | rfl | (simp; done))) | with_reducible apply Blk.store3 | with_reducible apply Blk.store4 | (with_reducible apply Blk.farp; (first | omega | (simp <;> omega))) | with_reducible apply Blk.allocp | with_reducible apply Blk.drew | with_reducible apply Blk.drewN))) hB4; have cM4 := hM4.cell; have fM4 := hM4.frozen; have lM4 := hM4.lt; have mM4 := Nat.ne_of_gt lM4; have nM4 := Nat.ne_of_lt lM4; have hN4 : Blk v4 (v3.heap.size) 27 #[.int .i64 mp, .int .i64 mq, .int .i64 mr, .int .i64 mp] := Blk.call (by (repeat (first | with_reducible assumption | (with_reducible apply Blk.new_at; (first | rfl | (simp; done))) | with_reducible apply Blk.store3 | with_reducible apply Blk.store4 | (with_reducible apply Blk.farp; (first | omega | (simp <;> omega))) | with_reducible apply Blk.allocp | with_reducible apply Blk.drew | with_reducible apply Blk.drewN))) hB4; have cN4 := hN4.cell; have fN4 := hN4.frozen; have lN4 := hN4.lt; have mN4 := Nat.ne_of_gt lN4; have nN4 := Nat.ne_of_lt lN4)
        | (go_at_call 47; (with_reducible refine (times_any p q r s mp mq mr mp _).mono ?_); rintro e v5 ⟨rfl, hB5⟩; have hZ5 := hB5.size; (try simp at hZ5); (try have zl5 : w.heap.size < v5.heap.size := by omega); (try have ze5 : w.heap.size ≤ v5.heap.size := by omega); (try have zn5 : ¬ w.heap.size = v5.heap.size := by omega); (try have zm5 : ¬ v5.heap.size = w.heap.size := by omega); have hA5 : Blk v5 (w.heap.size) 33 #[.int .i64 (atF f.a f.b f.c mp mr), .int .i64 (polF f.a f.b f.c mp mr mq mp), .int .i64 (atF f.a f.b f.c mq mp)] := Blk.call (by (repeat (first | with_reducible assumption | (with_reducible apply Blk.new_at; (first | rfl | (simp; done))) | with_reducible apply Blk.store3 | with_reducible apply Blk.store4 | (with_reducible apply Blk.farp; (first | omega | (simp <;> omega))) | with_reducible apply Blk.allocp | with_reducible apply Blk.drew | with_reducible apply Blk.drewN))) hB5; have cA5 := hA5.cell; have fA5 := hA5.frozen; have lA5 := hA5.lt; have mA5 := Nat.ne_of_gt lA5; have nA5 := Nat.ne_of_lt lA5; have hR5 : Blk v5 (w.heap.size + 1) 33 #[.int .i64 0, .int .i64 0, .int .i64 0] := Blk.call (by (repeat (first | with_reducible assumption | (with_reducible apply Blk.new_at; (first | rfl | (simp; done))) | with_reducible apply Blk.store3 | with_reducible apply Blk.store4 | (with_reducible apply Blk.farp; (first | omega | (simp <;> omega))) | with_reducible apply Blk.allocp | with_reducible apply Blk.drew | with_reducible apply Blk.drewN))) hB5; have cR5 := hR5.cell; have fR5 := hR5.frozen; have lR5 := hR5.lt; have mR5 := Nat.ne_of_gt lR5; have nR5 := Nat.ne_of_lt lR5; have hS5 : Blk v5 (w.heap.size + 1 + 1) 27 #[.int .i64 0, .int .i64 0, .int .i64 0, .int .i64 0] := Blk.call (by (repeat (first | with_reducible assumption | (with_reducible apply Blk.new_at; (first | rfl | (simp; done))) | with_reducible apply Blk.store3 | with_reducible apply Blk.store4 | (with_reducible apply Blk.farp; (first | omega | (simp <;> omega))) | with_reducible apply Blk.allocp | with_reducible apply Blk.drew | with_reducible apply Blk.drewN))) hB5; have cS5 := hS5.cell; have fS5 := hS5.frozen; have lS5 := hS5.lt; have mS5 := Nat.ne_of_gt lS5; have nS5 := Nat.ne_of_lt lS5; have hM5 : Blk v5 (v1.heap.size) 27 #[.int .i64 p, .int .i64 q, .int .i64 r, .int .i64 s] := Blk.call (by (repeat (first | with_reducible assumption | (with_reducible apply Blk.new_at; (first | rfl | (simp; done))) | with_reducible apply Blk.store3 | with_reducible apply Blk.store4 | (with_reducible apply Blk.farp; (first | omega | (simp <;> omega))) | with_reducible apply Blk.allocp | with_reducible apply Blk.drew | with_reducible apply Blk.drewN))) hB5; have cM5 := hM5.cell; have fM5 := hM5.frozen; have lM5 := hM5.lt; have mM5 := Nat.ne_of_gt lM5; have nM5 := Nat.ne_of_lt lM5))
      go_roundg (mu ⟨atF f.a f.b f.c mp mr, polF f.a f.b f.c mp mr mq mp, atF f.a f.b f.c mq mp⟩)
      case measure => omega
      case rel =>
        refine ⟨⟨atF f.a f.b f.c mp mr, polF f.a f.b f.c mp mr mq mp, atF f.a f.b f.c mq mp⟩, ⟨mm p mp q mr, mm p mq q mp, mm r mp s mr, mm r mq s mp⟩, hds, Hrs, Nat.le_refl _, ?_, ?_, ?_, ?_, (by repeat (first | with_reducible exact Below.refl _ _ | with_reducible assumption | with_reducible apply Below.drew | with_reducible apply below_drewN | (with_reducible apply below_setp; (first | omega | (simp <;> omega))) | (with_reducible apply below_allocp; (first | omega | (simp <;> omega))) | (with_reducible refine below_viap (by assumption) ?_ ?_; (first | omega | (simp <;> omega)))))⟩
        · (repeat (first | with_reducible assumption | (with_reducible apply Blk.new_at; (first | rfl | (simp; done))) | with_reducible apply Blk.store3 | with_reducible apply Blk.store4 | (with_reducible apply Blk.farp; (first | omega | (simp <;> omega))) | with_reducible apply Blk.allocp | with_reducible apply Blk.drew | with_reducible apply Blk.drewN))
        · (repeat (first | with_reducible assumption | (with_reducible apply Blk.new_at; (first | rfl | (simp; done))) | with_reducible apply Blk.store3 | with_reducible apply Blk.store4 | (with_reducible apply Blk.farp; (first | omega | (simp <;> omega))) | with_reducible apply Blk.allocp | with_reducible apply Blk.drew | with_reducible apply Blk.drewN))
        · (repeat (first | with_reducible assumption | (with_reducible apply Blk.new_at; (first | rfl | (simp; done))) | with_reducible apply Blk.store3 | with_reducible apply Blk.store4 | (with_reducible apply Blk.farp; (first | omega | (simp <;> omega))) | with_reducible apply Blk.allocp | with_reducible apply Blk.drew | with_reducible apply Blk.drewN))
        · (repeat (first | with_reducible assumption | (with_reducible apply Blk.new_at; (first | rfl | (simp; done))) | with_reducible apply Blk.store3 | with_reducible apply Blk.store4 | (with_reducible apply Blk.farp; (first | omega | (simp <;> omega))) | with_reducible apply Blk.allocp | with_reducible apply Blk.drew | with_reducible apply Blk.drewN))
set_option maxHeartbeats 400000 in
theorem reReduce_m (f0 : Fm) (w : World) (h0 : Def 1000000 f0) :
    Calls Tryz.prog 80 #[.agg #[.int .i64 f0.a, .int .i64 f0.b, .int .i64 f0.c]] w (RetRM (red f0) (redM f0 M4.one) w) := by
  go_enter Tryz.func80, Tryz.ntmps80
  go_wp2
  go_loopg [] (mu f0) (fun k wr => RedSM f0 w (w.heap.size + 1 + 1 + 1) k wr)
  case atStart =>
    refine ⟨f0, ⟨1, 0, 0, 1⟩, h0, Lib.hid ⟨rfl, rfl, act_one f0⟩, Nat.le_refl _, ?_, ?_, ?_, ?_, (by repeat (first | with_reducible exact Below.refl _ _ | with_reducible assumption | with_reducible apply Below.drew | with_reducible apply below_drewN | (with_reducible apply below_setp; (first | omega | (simp <;> omega))) | (with_reducible apply below_allocp; (first | omega | (simp <;> omega))) | (with_reducible refine below_viap (by assumption) ?_ ?_; (first | omega | (simp <;> omega)))))⟩
    · (repeat (first | with_reducible assumption | (with_reducible apply Blk.new_at; (first | rfl | (simp; done))) | with_reducible apply Blk.store3 | with_reducible apply Blk.store4 | (with_reducible apply Blk.farp; (first | omega | (simp <;> omega))) | with_reducible apply Blk.allocp | with_reducible apply Blk.drew | with_reducible apply Blk.drewN))
    · (repeat (first | with_reducible assumption | (with_reducible apply Blk.new_at; (first | rfl | (simp; done))) | with_reducible apply Blk.store3 | with_reducible apply Blk.store4 | (with_reducible apply Blk.farp; (first | omega | (simp <;> omega))) | with_reducible apply Blk.allocp | with_reducible apply Blk.drew | with_reducible apply Blk.drewN))
    · (repeat (first | with_reducible assumption | (with_reducible apply Blk.new_at; (first | rfl | (simp; done))) | with_reducible apply Blk.store3 | with_reducible apply Blk.store4 | (with_reducible apply Blk.farp; (first | omega | (simp <;> omega))) | with_reducible apply Blk.allocp | with_reducible apply Blk.drew | with_reducible apply Blk.drewN))
    · (repeat (first | with_reducible assumption | (with_reducible apply Blk.new_at; (first | rfl | (simp; done))) | with_reducible apply Blk.store3 | with_reducible apply Blk.store4 | (with_reducible apply Blk.farp; (first | omega | (simp <;> omega))) | with_reducible apply Blk.allocp | with_reducible apply Blk.drew | with_reducible apply Blk.drewN))
  case round =>
    obtain ⟨f, ⟨p, q, r, s⟩, hd, hr, hk, hA, hR, hS, hM, hbel⟩ := hrel
    have ha := hd.a0
    have hfar := hd.bB
    have ha2 := hd.aM
    dsimp only at hM
    have hz := hbel.size
    have cA := hA.cell; have fA := hA.frozen
    have cR := hR.cell; have fR := hR.frozen
    have cS := hS.cell; have fS := hS.frozen
    have cM := hM.cell; have fM := hM.frozen
    cases hred : isRed f.a f.b f.c with
    | true =>
      have hx := Lib.hid ((red_of hred).symm.trans hr.out.1)
      have hy := Lib.hid ((redM_of hred).symm.trans hr.out.2.1)
      go_wp2_with (first | (go_at_call 111; (with_reducible refine (reIs_any f.a f.b f.c _ ha (by omega)).mono ?_); rw [hred]; rintro e v2 ⟨rfl, hB2⟩; have hZ2 := hB2.size; (try simp at hZ2); (try have zl2 : w.heap.size < v2.heap.size := by omega); (try have ze2 : w.heap.size ≤ v2.heap.size := by omega); (try have zn2 : ¬ w.heap.size = v2.heap.size := by omega); (try have zm2 : ¬ v2.heap.size = w.heap.size := by omega); have hA2 : Blk v2 (w.heap.size) 33 #[.int .i64 f.a, .int .i64 f.b, .int .i64 f.c] := Blk.call (by (repeat (first | with_reducible assumption | (with_reducible apply Blk.new_at; (first | rfl | (simp; done))) | with_reducible apply Blk.store3 | with_reducible apply Blk.store4 | (with_reducible apply Blk.farp; (first | omega | (simp <;> omega))) | with_reducible apply Blk.allocp | with_reducible apply Blk.drew | with_reducible apply Blk.drewN))) hB2; have cA2 := hA2.cell; have fA2 := hA2.frozen; have lA2 := hA2.lt; have mA2 := Nat.ne_of_gt lA2; have nA2 := Nat.ne_of_lt lA2; have hR2 : Blk v2 (w.heap.size + 1) 33 #[.int .i64 0, .int .i64 0, .int .i64 0] := Blk.call (by (repeat (first | with_reducible assumption | (with_reducible apply Blk.new_at; (first | rfl | (simp; done))) | with_reducible apply Blk.store3 | with_reducible apply Blk.store4 | (with_reducible apply Blk.farp; (first | omega | (simp <;> omega))) | with_reducible apply Blk.allocp | with_reducible apply Blk.drew | with_reducible apply Blk.drewN))) hB2; have cR2 := hR2.cell; have fR2 := hR2.frozen; have lR2 := hR2.lt; have mR2 := Nat.ne_of_gt lR2; have nR2 := Nat.ne_of_lt lR2; have hS2 : Blk v2 (w.heap.size + 1 + 1) 27 #[.int .i64 0, .int .i64 0, .int .i64 0, .int .i64 0] := Blk.call (by (repeat (first | with_reducible assumption | (with_reducible apply Blk.new_at; (first | rfl | (simp; done))) | with_reducible apply Blk.store3 | with_reducible apply Blk.store4 | (with_reducible apply Blk.farp; (first | omega | (simp <;> omega))) | with_reducible apply Blk.allocp | with_reducible apply Blk.drew | with_reducible apply Blk.drewN))) hB2; have cS2 := hS2.cell; have fS2 := hS2.frozen; have lS2 := hS2.lt; have mS2 := Nat.ne_of_gt lS2; have nS2 := Nat.ne_of_lt lS2; have hM2 : Blk v2 (w.heap.size + 1 + 1 + 1) 27 #[.int .i64 p, .int .i64 q, .int .i64 r, .int .i64 s] := Blk.call (by (repeat (first | with_reducible assumption | (with_reducible apply Blk.new_at; (first | rfl | (simp; done))) | with_reducible apply Blk.store3 | with_reducible apply Blk.store4 | (with_reducible apply Blk.farp; (first | omega | (simp <;> omega))) | with_reducible apply Blk.allocp | with_reducible apply Blk.drew | with_reducible apply Blk.drewN))) hB2; have cM2 := hM2.cell; have fM2 := hM2.frozen; have lM2 := hM2.lt; have mM2 := Nat.ne_of_gt lM2; have nM2 := Nat.ne_of_lt lM2))
      go_region
      go_wp2
      exact bodyPost_ret (v := .tuple #[.agg #[.int .i64 f.a, .int .i64 f.b, .int .i64 f.c], .agg #[.int .i64 p, .int .i64 q, .int .i64 r, .int .i64 s]]) (by simp [results, Tryz.results80, go_sem, *]) rfl (retRM_mk (m := ⟨p, q, r, s⟩) hx.out hy.out (by repeat (first | with_reducible exact Below.refl _ _ | with_reducible assumption | with_reducible apply Below.drew | with_reducible apply below_drewN | (with_reducible apply below_setp; (first | omega | (simp <;> omega))) | (with_reducible apply below_allocp; (first | omega | (simp <;> omega))) | (with_reducible refine below_viap (by assumption) ?_ ?_; (first | omega | (simp <;> omega))))))
    | false =>
      obtain ⟨k1, k2, k3, hst⟩ := step_sub (def_mono hd (show (1000000 : Int) ≤ M0 by decide))
      obtain ⟨w1', w2', w3', w4'⟩ := mm_mul h0 hd hr.out.2.2
      have hmm : M4.mul ⟨p, q, r, s⟩ (stM f) = ⟨mm p (stM f).p q (stM f).r, mm p (stM f).q q (stM f).s, mm r (stM f).p s (stM f).r, mm r (stM f).q s (stM f).s⟩ := by rw [w1', w2', w3', w4']
      have hnx := fun f' h => matI_next hd hred hr.out (f' := f') h hmm
      have hds := def_step hd
      have hmu := mu_step hd hred
      have hrs := hnx _ hst
      clear hnx hmm w1' w2' w3' w4'
      have hsx := reMove_any f.a f.b f.c
      rw [hst] at hds hmu
      unfold stM at hrs
      dsimp only at hrs
      clear hst
      generalize (if isNorm f.a f.b = true then (0 : Int) else 1) = mp at *
      generalize (if isNorm f.a f.b = true then (1 : Int) else 0) = mr at *
      generalize (if isNorm f.a f.b = true then (-1 : Int) else tr f.a f.b) = mq at *
      have Hsx := Lib.hid hsx
      have Hrs := Lib.hid hrs
      clear hsx hrs
      go_wp2_with (first
        | (go_at_call 111; (with_reducible refine (reIs_any f.a f.b f.c _ ha (by omega)).mono ?_); rw [hred]; rintro e v2 ⟨rfl, hB2⟩; have hZ2 := hB2.size; (try simp at hZ2); (try have zl2 : w.heap.size < v2.heap.size := by omega); (try have ze2 : w.heap.size ≤ v2.heap.size := by omega); (try have zn2 : ¬ w.heap.size = v2.heap.size := by omega); (try have zm2 : ¬ v2.heap.size = w.heap.size := by omega); have hA2 : Blk v2 (w.heap.size) 33 #[.int .i64 f.a, .int .i64 f.b, .int .i64 f.c] := Blk.call (by (repeat (first | with_reducible assumption | (with_reducible apply Blk.new_at; (first | rfl | (simp; done))) | with_reducible apply Blk.store3 | with_reducible apply Blk.store4 | (with_reducible apply Blk.farp; (first | omega | (simp <;> omega))) | with_reducible apply Blk.allocp | with_reducible apply Blk.drew | with_reducible apply Blk.drewN))) hB2; have cA2 := hA2.cell; have fA2 := hA2.frozen; have lA2 := hA2.lt; have mA2 := Nat.ne_of_gt lA2; have nA2 := Nat.ne_of_lt lA2; have hR2 : Blk v2 (w.heap.size + 1) 33 #[.int .i64 0, .int .i64 0, .int .i64 0] := Blk.call (by (repeat (first | with_reducible assumption | (with_reducible apply Blk.new_at; (first | rfl | (simp; done))) | with_reducible apply Blk.store3 | with_reducible apply Blk.store4 | (with_reducible apply Blk.farp; (first | omega | (simp <;> omega))) | with_reducible apply Blk.allocp | with_reducible apply Blk.drew | with_reducible apply Blk.drewN))) hB2; have cR2 := hR2.cell; have fR2 := hR2.frozen; have lR2 := hR2.lt; have mR2 := Nat.ne_of_gt lR2; have nR2 := Nat.ne_of_lt lR2; have hS2 : Blk v2 (w.heap.size + 1 + 1) 27 #[.int .i64 0, .int .i64 0, .int .i64 0, .int .i64 0] := Blk.call (by (repeat (first | with_reducible assumption | (with_reducible apply Blk.new_at; (first | rfl | (simp; done))) | with_reducible apply Blk.store3 | with_reducible apply Blk.store4 | (with_reducible apply Blk.farp; (first | omega | (simp <;> omega))) | with_reducible apply Blk.allocp | with_reducible apply Blk.drew | with_reducible apply Blk.drewN))) hB2; have cS2 := hS2.cell; have fS2 := hS2.frozen; have lS2 := hS2.lt; have mS2 := Nat.ne_of_gt lS2; have nS2 := Nat.ne_of_lt lS2; have hM2 : Blk v2 (w.heap.size + 1 + 1 + 1) 27 #[.int .i64 p, .int .i64 q, .int .i64 r, .int .i64 s] := Blk.call (by (repeat (first | with_reducible assumption | (with_reducible apply Blk.new_at; (first | rfl | (simp; done))) | with_reducible apply Blk.store3 | with_reducible apply Blk.store4 | (with_reducible apply Blk.farp; (first | omega | (simp <;> omega))) | with_reducible apply Blk.allocp | with_reducible apply Blk.drew | with_reducible apply Blk.drewN))) hB2; have cM2 := hM2.cell; have fM2 := hM2.frozen; have lM2 := hM2.lt; have mM2 := Nat.ne_of_gt lM2; have nM2 := Nat.ne_of_lt lM2)
        | (go_at_call 112; (with_reducible refine (Hsx.out _ ha (by omega) (by omega) (by omega) hred).mono ?_); rintro e v3 ⟨rfl, hB3⟩; have hZ3 := hB3.size; (try simp at hZ3); (try have zl3 : w.heap.size < v3.heap.size := by omega); (try have ze3 : w.heap.size ≤ v3.heap.size := by omega); (try have zn3 : ¬ w.heap.size = v3.heap.size := by omega); (try have zm3 : ¬ v3.heap.size = w.heap.size := by omega); have hA3 : Blk v3 (w.heap.size) 33 #[.int .i64 f.a, .int .i64 f.b, .int .i64 f.c] := Blk.call (by (repeat (first | with_reducible assumption | (with_reducible apply Blk.new_at; (first | rfl | (simp; done))) | with_reducible apply Blk.store3 | with_reducible apply Blk.store4 | (with_reducible apply Blk.farp; (first | omega | (simp <;> omega))) | with_reducible apply Blk.allocp | with_reducible apply Blk.drew | with_reducible apply Blk.drewN))) hB3; have cA3 := hA3.cell; have fA3 := hA3.frozen; have lA3 := hA3.lt; have mA3 := Nat.ne_of_gt lA3; have nA3 := Nat.ne_of_lt lA3; have hR3 : Blk v3 (w.heap.size + 1) 33 #[.int .i64 0, .int .i64 0, .int .i64 0] := Blk.call (by (repeat (first | with_reducible assumption | (with_reducible apply Blk.new_at; (first | rfl | (simp; done))) | with_reducible apply Blk.store3 | with_reducible apply Blk.store4 | (with_reducible apply Blk.farp; (first | omega | (simp <;> omega))) | with_reducible apply Blk.allocp | with_reducible apply Blk.drew | with_reducible apply Blk.drewN))) hB3; have cR3 := hR3.cell; have fR3 := hR3.frozen; have lR3 := hR3.lt; have mR3 := Nat.ne_of_gt lR3; have nR3 := Nat.ne_of_lt lR3; have hS3 : Blk v3 (w.heap.size + 1 + 1) 27 #[.int .i64 0, .int .i64 0, .int .i64 0, .int .i64 0] := Blk.call (by (repeat (first | with_reducible assumption | (with_reducible apply Blk.new_at; (first | rfl | (simp; done))) | with_reducible apply Blk.store3 | with_reducible apply Blk.store4 | (with_reducible apply Blk.farp; (first | omega | (simp <;> omega))) | with_reducible apply Blk.allocp | with_reducible apply Blk.drew | with_reducible apply Blk.drewN))) hB3; have cS3 := hS3.cell; have fS3 := hS3.frozen; have lS3 := hS3.lt; have mS3 := Nat.ne_of_gt lS3; have nS3 := Nat.ne_of_lt lS3; have hM3 : Blk v3 (w.heap.size + 1 + 1 + 1) 27 #[.int .i64 p, .int .i64 q, .int .i64 r, .int .i64 s] := Blk.call (by (repeat (first | with_reducible assumption | (with_reducible apply Blk.new_at; (first | rfl | (simp; done))) | with_reducible apply Blk.store3 | with_reducible apply Blk.store4 | (with_reducible apply Blk.farp; (first | omega | (simp <;> omega))) | with_reducible apply Blk.allocp | with_reducible apply Blk.drew | with_reducible apply Blk.drewN))) hB3; have cM3 := hM3.cell; have fM3 := hM3.frozen; have lM3 := hM3.lt; have mM3 := Nat.ne_of_gt lM3; have nM3 := Nat.ne_of_lt lM3))
      refine wp_region_calm 6 (Below (v3.heap.size + 1) _) (by kernel_rfl) (by kernel_rfl) ((Below.refl _ _).drew) ?_
      simp only [List.take_succ_cons, List.take_zero, List.drop_succ_cons, List.drop_zero]
      repeat (first | (apply wpCalm_go; go_simp; (intro w' hw' hcc hff; go_simp; first | exact rfl | (refine (foAct_any f.a f.b f.c mp mq mr mp _ k1 k2 k3).mono ?_; rintro e w1 ⟨rfl, hb⟩; exact ⟨rfl, calm_call (by simp <;> omega) hw' hb⟩) | (refine (foMul_any p q r s mp mq mr mp _).mono ?_; rintro e w1 ⟨rfl, hb⟩; exact ⟨rfl, calm_call (by simp <;> omega) hw' hb⟩)); (intro K hK; go_simp; refine hK _ ?_; clear hK K)) | (apply wpCalm_skip; go_simp; (try (focus (simp [undef]; done))); (intro K hK; go_simp; refine hK _ ?_; clear hK K)))
      refine wpCalm_nil ?_
      intro w1 hw1
      have hcc := (calm_cells hw1).1
      have hff := (calm_cells hw1).2
      have hss := calm_size hw1
      have hsz := hw1.size
      (try simp at hsz)
      clear hcc hff
      have hA5 : Blk w1 (w.heap.size) 33 #[.int .i64 f.a, .int .i64 f.b, .int .i64 f.c] := Blk.below (by (repeat (first | with_reducible assumption | (with_reducible apply Blk.new_at; (first | rfl | (simp; done))) | with_reducible apply Blk.store3 | with_reducible apply Blk.store4 | (with_reducible apply Blk.farp; (first | omega | (simp <;> omega))) | with_reducible apply Blk.allocp | with_reducible apply Blk.drew | with_reducible apply Blk.drewN))) hw1 (by first | omega | (simp <;> omega))
      have cA5 := hA5.cell; have fA5 := hA5.frozen; have lA5 := hA5.lt; have mA5 := Nat.ne_of_gt lA5; have nA5 := Nat.ne_of_lt lA5
      have hR5 : Blk w1 (w.heap.size + 1) 33 #[.int .i64 0, .int .i64 0, .int .i64 0] := Blk.below (by (repeat (first | with_reducible assumption | (with_reducible apply Blk.new_at; (first | rfl | (simp; done))) | with_reducible apply Blk.store3 | with_reducible apply Blk.store4 | (with_reducible apply Blk.farp; (first | omega | (simp <;> omega))) | with_reducible apply Blk.allocp | with_reducible apply Blk.drew | with_reducible apply Blk.drewN))) hw1 (by first | omega | (simp <;> omega))
      have cR5 := hR5.cell; have fR5 := hR5.frozen; have lR5 := hR5.lt; have mR5 := Nat.ne_of_gt lR5; have nR5 := Nat.ne_of_lt lR5
      have hS5 : Blk w1 (w.heap.size + 1 + 1) 27 #[.int .i64 0, .int .i64 0, .int .i64 0, .int .i64 0] := Blk.below (by (repeat (first | with_reducible assumption | (with_reducible apply Blk.new_at; (first | rfl | (simp; done))) | with_reducible apply Blk.store3 | with_reducible apply Blk.store4 | (with_reducible apply Blk.farp; (first | omega | (simp <;> omega))) | with_reducible apply Blk.allocp | with_reducible apply Blk.drew | with_reducible apply Blk.drewN))) hw1 (by first | omega | (simp <;> omega))
      have cS5 := hS5.cell; have fS5 := hS5.frozen; have lS5 := hS5.lt; have mS5 := Nat.ne_of_gt lS5; have nS5 := Nat.ne_of_lt lS5
      have hM5 : Blk w1 (w.heap.size + 1 + 1 + 1) 27 #[.int .i64 p, .int .i64 q, .int .i64 r, .int .i64 s] := Blk.below (by (repeat (first | with_reducible assumption | (with_reducible apply Blk.new_at; (first | rfl | (simp; done))) | with_reducible apply Blk.store3 | with_reducible apply Blk.store4 | (with_reducible apply Blk.farp; (first | omega | (simp <;> omega))) | with_reducible apply Blk.allocp | with_reducible apply Blk.drew | with_reducible apply Blk.drewN))) hw1 (by first | omega | (simp <;> omega))
      have cM5 := hM5.cell; have fM5 := hM5.frozen; have lM5 := hM5.lt; have mM5 := Nat.ne_of_gt lM5; have nM5 := Nat.ne_of_lt lM5
      go_wp2
      go_roundg (mu ⟨atF f.a f.b f.c mp mr, polF f.a f.b f.c mp mr mq mp, atF f.a f.b f.c mq mp⟩)
      case measure => omega
      case rel =>
        refine ⟨⟨atF f.a f.b f.c mp mr, polF f.a f.b f.c mp mr mq mp, atF f.a f.b f.c mq mp⟩, ⟨mm p mp q mr, mm p mq q mp, mm r mp s mr, mm r mq s mp⟩, hds, Hrs, Nat.le_refl _, ?_, ?_, ?_, ?_, (by repeat (first | with_reducible exact Below.refl _ _ | with_reducible assumption | with_reducible apply Below.drew | with_reducible apply below_drewN | (with_reducible apply below_setp; (first | omega | (simp <;> omega))) | (with_reducible apply below_allocp; (first | omega | (simp <;> omega))) | (with_reducible refine below_viap (by assumption) ?_ ?_; (first | omega | (simp <;> omega)))))⟩
        · (repeat (first | with_reducible assumption | (with_reducible apply Blk.new_at; (first | rfl | (simp; done))) | with_reducible apply Blk.store3 | with_reducible apply Blk.store4 | (with_reducible apply Blk.farp; (first | omega | (simp <;> omega))) | with_reducible apply Blk.allocp | with_reducible apply Blk.drew | with_reducible apply Blk.drewN))
        · (repeat (first | with_reducible assumption | (with_reducible apply Blk.new_at; (first | rfl | (simp; done))) | with_reducible apply Blk.store3 | with_reducible apply Blk.store4 | (with_reducible apply Blk.farp; (first | omega | (simp <;> omega))) | with_reducible apply Blk.allocp | with_reducible apply Blk.drew | with_reducible apply Blk.drewN))
        · (repeat (first | with_reducible assumption | (with_reducible apply Blk.new_at; (first | rfl | (simp; done))) | with_reducible apply Blk.store3 | with_reducible apply Blk.store4 | (with_reducible apply Blk.farp; (first | omega | (simp <;> omega))) | with_reducible apply Blk.allocp | with_reducible apply Blk.drew | with_reducible apply Blk.drewN))
        · (repeat (first | with_reducible assumption | (with_reducible apply Blk.new_at; (first | rfl | (simp; done))) | with_reducible apply Blk.store3 | with_reducible apply Blk.store4 | (with_reducible apply Blk.farp; (first | omega | (simp <;> omega))) | with_reducible apply Blk.allocp | with_reducible apply Blk.drew | with_reducible apply Blk.drewN))
end

section
open Go.RowKit

theorem cls_fm {a b c : Int} (h : isCls a b c = true) : isFm a b c = true ∧ isDefB a b c = true := by
  unfold isCls isShown isDefB at h
  simp only [Bool.and_eq_true] at h
  refine ⟨h.1.1.1, ?_⟩
  unfold isDefB
  simp only [Bool.and_eq_true]
  exact h.1.1
theorem cls_def6 {a b c : Int} (h : isCls a b c = true) : Def 1000000 ⟨a, b, c⟩ := by
  have h0 := (cls_def h).1
  obtain ⟨⟨a1, a2⟩, ⟨b1, b2⟩, ⟨c1, c2⟩⟩ := isFm_bd (cls_fm h).1
  exact ⟨h0.a0, a2, h0.c0, c2, h0.d⟩
set_option maxHeartbeats 800000 in
theorem IsMatrix_any (p q r s : Int) (w : World) :
    Calls Tryz.prog 35 #[.agg #[.int .i64 p, .int .i64 q, .int .i64 r, .int .i64 s]] w fun e w' => e = .returned (.bool (isNum p && (isNum q && (isNum r && isNum s)))) ∧ Below w.heap.size w w' := by
  have hc : ∀ j, j < 4 → ((w.alloc (.cells #[.int .i64 p, .int .i64 q, .int .i64 r, .int .i64 s] 27)).alloc (.cells #[.int .i64 p, .int .i64 q, .int .i64 r, .int .i64 s] 3)).cell? ⟨w.heap.size + 1, j, none⟩ = some (.int .i64 ([p, q, r, s].getD j 0)) := by
    intro j hj
    match j, hj with
    | 0, _ => simp [go_sem]
    | 1, _ => simp [go_sem]
    | 2, _ => simp [go_sem]
    | 3, _ => simp [go_sem]
  have Hc := Lib.hid hc; clear hc
  go_enter Tryz.func35, Tryz.ntmps35
  go_wp2_with (go_at_call 68; refine (areNumbers_any (w.heap.size + 1) 4 4 [p, q, r, s] _ rfl (by omega) Hc.out).mono ?_; rintro e v ⟨rfl, rfl⟩)
  go_ret
  exact ⟨ret_bool (by simp), (by repeat (first | with_reducible exact Below.refl _ _ | with_reducible assumption | with_reducible apply Below.drew | with_reducible apply below_drewN | (with_reducible apply below_setp; (first | omega | (simp <;> omega))) | (with_reducible apply below_allocp; (first | omega | (simp <;> omega))) | (with_reducible refine below_viap (by assumption) ?_ ?_; (first | omega | (simp <;> omega)))))⟩
/-- Whether two forms can be composed. -/
def pairB (f g : Fm) : Bool := isCls f.a f.b f.c && (isCls g.a g.b g.c && decide (disc f = disc g))
set_option maxRecDepth 100000 in
set_option maxHeartbeats 1600000 in
theorem arePair_any (f g : Fm) (w : World) :
    Calls Tryz.prog 42 #[.agg #[.int .i64 f.a, .int .i64 f.b, .int .i64 f.c], .agg #[.int .i64 g.a, .int .i64 g.b, .int .i64 g.c]] w fun e w' => e = .returned (.bool (pairB f g)) ∧ Below w.heap.size w w' := by
  unfold pairB
  have hIf := Lib.hid (fun w => icls_any f.a f.b f.c w)
  have hIg := Lib.hid (fun w => icls_any g.a g.b g.c w)
  cases hf : isCls f.a f.b f.c with
  | false =>
    rw [hf] at hIf
    go_enter Tryz.func42, Tryz.ntmps42
    go_wp2
    go_region_with (go_at_call 51; refine (hIf.out _).mono ?_; rintro e w1 ⟨rfl, hb⟩; have kA1 := fun o => (calm_cells hb).1 w.heap.size o (by first | omega | (simp <;> omega)); have kB1 := fun o => (calm_cells hb).1 (w.heap.size + 1) o (by first | omega | (simp <;> omega)); have kZ1 := hb.size; (try simp at kZ1))
    all_goals (go_wp2; go_ret; exact ⟨rfl, (by repeat (first | with_reducible exact Below.refl _ _ | with_reducible assumption | with_reducible apply Below.drew | with_reducible apply below_drewN | (with_reducible apply below_setp; (first | omega | (simp <;> omega))) | (with_reducible apply below_allocp; (first | omega | (simp <;> omega))) | (with_reducible refine below_viap (by assumption) ?_ ?_; (first | omega | (simp <;> omega)))))⟩)
  | true =>
    rw [hf] at hIf
    cases hg : isCls g.a g.b g.c with
    | false =>
      rw [hg] at hIg
      go_enter Tryz.func42, Tryz.ntmps42
      go_wp2
      go_region_with (first | (go_at_call 51; (with_reducible refine (hIf.out _).mono ?_); rintro e w1 ⟨rfl, hb⟩; have kA1 := fun o => (calm_cells hb).1 w.heap.size o (by first | omega | (simp <;> omega)); have kB1 := fun o => (calm_cells hb).1 (w.heap.size + 1) o (by first | omega | (simp <;> omega)); have kZ1 := hb.size; (try simp at kZ1)) | (go_at_call 51; (with_reducible refine (hIg.out _).mono ?_); rintro e w2 ⟨rfl, hb2⟩; have kA2 := fun o => (calm_cells hb2).1 w.heap.size o (by first | omega | (simp <;> omega)); have kB2 := fun o => (calm_cells hb2).1 (w.heap.size + 1) o (by first | omega | (simp <;> omega)); have kZ2 := hb2.size; (try simp at kZ2)))
      all_goals (go_wp2; go_ret; exact ⟨rfl, (by repeat (first | with_reducible exact Below.refl _ _ | with_reducible assumption | with_reducible apply Below.drew | with_reducible apply below_drewN | (with_reducible apply below_setp; (first | omega | (simp <;> omega))) | (with_reducible apply below_allocp; (first | omega | (simp <;> omega))) | (with_reducible refine below_viap (by assumption) ?_ ?_; (first | omega | (simp <;> omega)))))⟩)
    | true =>
      rw [hg] at hIg
      have cf : CF (disc f) f (red f) := CF.of_cls hf
      have cg : CF (disc g) g (red g) := CF.of_cls hg
      have hDf := Lib.hid (fun w => disc_cf _ _ _ w cf)
      have hDg := Lib.hid (fun w => disc_cf _ _ _ w cg)
      clear cf cg hf hg
      generalize disc f = x at *
      generalize disc g = y at *
      go_enter Tryz.func42, Tryz.ntmps42
      go_wp2
      go_region_with (first | (go_at_call 51; (with_reducible refine (hIf.out _).mono ?_); rintro e w1 ⟨rfl, hb⟩; have kA1 := fun o => (calm_cells hb).1 w.heap.size o (by first | omega | (simp <;> omega)); have kB1 := fun o => (calm_cells hb).1 (w.heap.size + 1) o (by first | omega | (simp <;> omega)); have kZ1 := hb.size; (try simp at kZ1)) | (go_at_call 51; (with_reducible refine (hIg.out _).mono ?_); rintro e w2 ⟨rfl, hb2⟩; have kA2 := fun o => (calm_cells hb2).1 w.heap.size o (by first | omega | (simp <;> omega)); have kB2 := fun o => (calm_cells hb2).1 (w.heap.size + 1) o (by first | omega | (simp <;> omega)); have kZ2 := hb2.size; (try simp at kZ2)) | (go_at_call 81; (with_reducible refine (hDf.out _).mono ?_); rintro e w3 ⟨rfl, hb3⟩; have kA3 := fun o => (calm_cells hb3).1 w.heap.size o (by first | omega | (simp <;> omega)); have kB3 := fun o => (calm_cells hb3).1 (w.heap.size + 1) o (by first | omega | (simp <;> omega)); have kZ3 := hb3.size; (try simp at kZ3)) | (go_at_call 81; (with_reducible refine (hDg.out _).mono ?_); rintro e w4 ⟨rfl, hb4⟩; have kZ4 := hb4.size; (try simp at kZ4)))
      all_goals (go_wp2; go_ret; exact ⟨ret_bool (by rw [Bool.true_and, Bool.true_and, Bool.eq_iff_iff, beq_iff_eq, decide_eq_true_iff]), (by repeat (first | with_reducible exact Below.refl _ _ | with_reducible assumption | with_reducible apply Below.drew | with_reducible apply below_drewN | (with_reducible apply below_setp; (first | omega | (simp <;> omega))) | (with_reducible apply below_allocp; (first | omega | (simp <;> omega))) | (with_reducible refine below_viap (by assumption) ?_ ?_; (first | omega | (simp <;> omega)))))⟩)
set_option maxRecDepth 100000 in
set_option maxHeartbeats 1600000 in
theorem implComp_c (f g : Fm) (w : World) (h : pairB f g = true) :
    Calls Tryz.prog 16 #[.agg #[.int .i64 f.a, .int .i64 f.b, .int .i64 f.c], .agg #[.int .i64 g.a, .int .i64 g.b, .int .i64 g.c]] w fun e w' =>
      e = .returned (.tuple #[.agg #[.int .i64 (cmp (disc f) (red f) (red g)).a, .int .i64 (cmp (disc f) (red f) (red g)).b, .int .i64 (cmp (disc f) (red f) (red g)).c], .bool true]) ∧ Below w.heap.size w w' := by
  have hP := Lib.hid (fun w => arePair_any f g w)
  rw [h] at hP
  unfold pairB at h
  simp only [Bool.and_eq_true, decide_eq_true_eq] at h
  obtain ⟨hf, hg, he⟩ := h
  have cf : CF (disc f) f (red f) := CF.of_cls hf
  have cg : CF (disc g) g (red g) := CF.of_cls hg
  rw [← he] at cg
  have hC := Lib.hid (fun w => compose_cf _ _ _ _ _ _ w cf cg rfl)
  generalize cmp (disc f) (red f) (red g) = r at *
  clear cf cg hf hg he
  go_enter Tryz.func16, Tryz.ntmps16
  go_wp2_with (first
    | (go_at_call 42; (with_reducible refine (hP.out _).mono ?_); rintro e v1 ⟨rfl, hB1⟩; have hZ1 := hB1.size; (try simp at hZ1); (try have zl1 : w.heap.size < v1.heap.size := by omega); (try have ze1 : w.heap.size ≤ v1.heap.size := by omega); (try have zn1 : ¬ w.heap.size = v1.heap.size := by omega); (try have zm1 : ¬ v1.heap.size = w.heap.size := by omega); have hA1 : Blk v1 (w.heap.size) 33 #[.int .i64 f.a, .int .i64 f.b, .int .i64 f.c] := Blk.call (by (repeat (first | with_reducible assumption | (with_reducible apply Blk.new_at; (first | rfl | (simp; done))) | with_reducible apply Blk.store3 | with_reducible apply Blk.store4 | (with_reducible apply Blk.farp; (first | omega | (simp <;> omega))) | with_reducible apply Blk.allocp | with_reducible apply Blk.drew | with_reducible apply Blk.drewN))) hB1; have cA1 := hA1.cell; have fA1 := hA1.frozen; have lA1 := hA1.lt; have mA1 := Nat.ne_of_gt lA1; have nA1 := Nat.ne_of_lt lA1; have hD1 : Blk v1 (w.heap.size + 1) 33 #[.int .i64 g.a, .int .i64 g.b, .int .i64 g.c] := Blk.call (by (repeat (first | with_reducible assumption | (with_reducible apply Blk.new_at; (first | rfl | (simp; done))) | with_reducible apply Blk.store3 | with_reducible apply Blk.store4 | (with_reducible apply Blk.farp; (first | omega | (simp <;> omega))) | with_reducible apply Blk.allocp | with_reducible apply Blk.drew | with_reducible apply Blk.drewN))) hB1; have cD1 := hD1.cell; have fD1 := hD1.frozen; have lD1 := hD1.lt; have mD1 := Nat.ne_of_gt lD1; have nD1 := Nat.ne_of_lt lD1; have hR1 : Blk v1 (w.heap.size + 1 + 1) 33 #[.int .i64 0, .int .i64 0, .int .i64 0] := Blk.call (by (repeat (first | with_reducible assumption | (with_reducible apply Blk.new_at; (first | rfl | (simp; done))) | with_reducible apply Blk.store3 | with_reducible apply Blk.store4 | (with_reducible apply Blk.farp; (first | omega | (simp <;> omega))) | with_reducible apply Blk.allocp | with_reducible apply Blk.drew | with_reducible apply Blk.drewN))) hB1; have cR1 := hR1.cell; have fR1 := hR1.frozen; have lR1 := hR1.lt; have mR1 := Nat.ne_of_gt lR1; have nR1 := Nat.ne_of_lt lR1)
    | (go_at_call 50; (with_reducible refine (hC.out _).mono ?_); rintro e v2 ⟨rfl, hB2⟩; have hZ2 := hB2.size; (try simp at hZ2); (try have zl2 : w.heap.size < v2.heap.size := by omega); (try have ze2 : w.heap.size ≤ v2.heap.size := by omega); (try have zn2 : ¬ w.heap.size = v2.heap.size := by omega); (try have zm2 : ¬ v2.heap.size = w.heap.size := by omega); have hR2 : Blk v2 (w.heap.size + 1 + 1) 33 #[.int .i64 0, .int .i64 0, .int .i64 0] := Blk.call (by (repeat (first | with_reducible assumption | (with_reducible apply Blk.new_at; (first | rfl | (simp; done))) | with_reducible apply Blk.store3 | with_reducible apply Blk.store4 | (with_reducible apply Blk.farp; (first | omega | (simp <;> omega))) | with_reducible apply Blk.allocp | with_reducible apply Blk.drew | with_reducible apply Blk.drewN))) hB2; have cR2 := hR2.cell; have fR2 := hR2.frozen; have lR2 := hR2.lt; have mR2 := Nat.ne_of_gt lR2; have nR2 := Nat.ne_of_lt lR2))
  exact bodyPost_ret (v := .tuple #[.agg #[.int .i64 r.a, .int .i64 r.b, .int .i64 r.c], .bool true]) (by simp [results, Tryz.results16, go_sem, *]) rfl ⟨rfl, (by repeat (first | with_reducible exact Below.refl _ _ | with_reducible assumption | with_reducible apply Below.drew | with_reducible apply below_drewN | (with_reducible apply below_setp; (first | omega | (simp <;> omega))) | (with_reducible apply below_allocp; (first | omega | (simp <;> omega))) | (with_reducible refine below_viap (by assumption) ?_ ?_; (first | omega | (simp <;> omega)))))⟩
end

section
open Go.RowKit

end
end Go.Proofs.YtlcegkafagdcjaaGreatDoor
