/- Parts RP RM DG DJ laid together by tp.py. -/
import Derived.Test.YtohgccgbbipjjaaGreatCA
import Derived.Test.YtohgccgbbipjjaaGreatUB
import Derived.Test.YtohgccgbbipjjaaGreatN5
import Derived.BigQuiet
namespace Go.Proofs.YtohgccgbbipjjaaGreat
section

/-- A matrix. -/
structure M4 where
  p : Int
  q : Int
  r : Int
  s : Int
def M4.mul (m n : M4) : M4 := ⟨m.p * n.p + m.q * n.r, m.p * n.q + m.q * n.s, m.r * n.p + m.s * n.r, m.r * n.q + m.s * n.s⟩
def M4.one : M4 := ⟨1, 0, 0, 1⟩
def M4.det (m : M4) : Int := m.p * m.s - m.q * m.r
/-- The matrix of a step. -/
def stM (f : Fm) : M4 := ⟨if isNorm f.a f.b then 0 else 1, if isNorm f.a f.b then -1 else tr f.a f.b, if isNorm f.a f.b then 1 else 0, if isNorm f.a f.b then 0 else 1⟩
def actM (f : Fm) (m : M4) : Fm := ⟨atF f.a f.b f.c m.p m.r, polF f.a f.b f.c m.p m.r m.q m.s, atF f.a f.b f.c m.q m.s⟩
theorem act_mul (f : Fm) (m n : M4) : actM (actM f m) n = actM f (m.mul n) := by
  unfold actM atF polF M4.mul
  simp only [Fm.mk.injEq]
  refine ⟨?_, ?_, ?_⟩ <;> grind
theorem act_one (f : Fm) : actM f M4.one = f := by
  unfold actM atF polF M4.one
  obtain ⟨a, b, c⟩ := f
  simp
theorem det_mul (m n : M4) : (m.mul n).det = m.det * n.det := by
  unfold M4.mul M4.det
  grind
theorem det_st (f : Fm) : (stM f).det = 1 := by
  unfold stM M4.det
  split <;> simp
theorem act_st {f : Fm} (h : Def M0 f) : stepF f = actM f (stM f) := (step_sub h).2.2.2
def redMN : Nat → Fm → M4 → M4
  | 0, _, m => m
  | k + 1, f, m => if isRed f.a f.b f.c then m else redMN k (stepF f) (m.mul (stM f))
theorem redMN_more {M : Int} : ∀ (n : Nat) (f : Fm) (m : M4), Def M f → mu f < n → ∀ k, mu f < k → redMN k f m = redMN n f m := by
  intro n
  induction n with
  | zero => intro f _ _ h; omega
  | succ n ih =>
    intro f m h hm k hk
    match k with
    | 0 => omega
    | k + 1 =>
      cases hr : isRed f.a f.b f.c with
      | true => simp [redMN, hr]
      | false =>
        have hs := mu_step h hr
        have := ih (stepF f) (m.mul (stM f)) (def_step h) (by omega) k (by omega)
        simpa [redMN, hr] using this
/-- The matrix that the reduction of f makes, from m on. -/
def redM (f : Fm) (m : M4) : M4 := redMN (mu f + 1) f m
theorem redM_of {f : Fm} {m : M4} (hr : isRed f.a f.b f.c = true) : redM f m = m := by simp [redM, redMN, hr]
theorem redM_step {M : Int} {f : Fm} {m : M4} (h : Def M f) (hr : isRed f.a f.b f.c = false) : redM (stepF f) (m.mul (stM f)) = redM f m := by
  have hs := mu_step h hr
  have e : redM f m = redMN (mu f) (stepF f) (m.mul (stM f)) := by simp [redM, redMN, hr]
  rw [e]
  exact redMN_more (mu f) _ _ (def_step h) hs _ (by omega)
theorem redM_ind {M : Int} (P : Fm → M4 → Prop) (hs : ∀ g m, Def M g → isRed g.a g.b g.c = false → P g m → P (stepF g) (m.mul (stM g))) : ∀ (n : Nat) (f : Fm) (m : M4), Def M f → mu f ≤ n → P f m → P (red f) (redM f m) := by
  intro n
  induction n with
  | zero =>
    intro f m h hn hp
    cases hr : isRed f.a f.b f.c with
    | true => rw [red_of hr, redM_of hr]; exact hp
    | false => have := mu_step h hr; omega
  | succ n ih =>
    intro f m h hn hp
    cases hr : isRed f.a f.b f.c with
    | true => rw [red_of hr, redM_of hr]; exact hp
    | false =>
      have := mu_step h hr
      rw [← red_step h hr, ← redM_step h hr]
      exact ih _ _ (def_step h) (by omega) (hs f m h hr hp)
/-- The reducing matrix makes the reduced form, and its determinant is 1. -/
theorem redM_act {f : Fm} (h : Def M0 f) : actM f (redM f M4.one) = red f ∧ (redM f M4.one).det = 1 :=
  redM_ind (fun g m => actM f m = g ∧ m.det = 1) (fun g m hg _ hp => ⟨by rw [← act_mul, hp.1, act_st hg], by rw [det_mul, hp.2, det_st]; rfl⟩) _ f M4.one h (Nat.le_refl _) ⟨act_one f, rfl⟩
end

section
open Go.RowKit

end

section
open Go.RowKit

/-- Whether two forms can be composed. -/
def pairB (f g : Fm) : Bool := isCls f.a f.b f.c && (isCls g.a g.b g.c && decide (disc f = disc g))
set_option maxRecDepth 100000 in
set_option maxHeartbeats 1600000 in
theorem arePair_any (f g : Fm) (w : World) :
    Calls Tryz.prog 33 #[.agg #[.int .i64 f.a, .int .i64 f.b, .int .i64 f.c], .agg #[.int .i64 g.a, .int .i64 g.b, .int .i64 g.c]] w fun e w' => e = .returned (.bool (pairB f g)) ∧ Below w.heap.size w w' := by
  unfold pairB
  have hIf := Lib.hid (fun w => icls_any f.a f.b f.c w)
  have hIg := Lib.hid (fun w => icls_any g.a g.b g.c w)
  cases hf : isCls f.a f.b f.c with
  | false =>
    rw [hf] at hIf
    go_enter Tryz.func33, Tryz.ntmps33
    go_wp2
    go_region_with (go_at_call 70; refine (hIf.out _).mono ?_; rintro e w1 ⟨rfl, hb⟩; have kA1 := fun o => (calm_cells hb).1 w.heap.size o (by first | omega | (simp <;> omega)); have kB1 := fun o => (calm_cells hb).1 (w.heap.size + 1) o (by first | omega | (simp <;> omega)); have kZ1 := hb.size; (try simp at kZ1))
    all_goals (go_wp2; go_ret; exact ⟨rfl, (by repeat (first | with_reducible exact Below.refl _ _ | with_reducible assumption | with_reducible apply Below.drew | with_reducible apply below_drewN | (with_reducible apply below_setp; (first | omega | (simp <;> omega))) | (with_reducible apply below_allocp; (first | omega | (simp <;> omega))) | (with_reducible refine below_viap (by assumption) ?_ ?_; (first | omega | (simp <;> omega)))))⟩)
  | true =>
    rw [hf] at hIf
    cases hg : isCls g.a g.b g.c with
    | false =>
      rw [hg] at hIg
      go_enter Tryz.func33, Tryz.ntmps33
      go_wp2
      go_region_with (first | (go_at_call 70; (with_reducible refine (hIf.out _).mono ?_); rintro e w1 ⟨rfl, hb⟩; have kA1 := fun o => (calm_cells hb).1 w.heap.size o (by first | omega | (simp <;> omega)); have kB1 := fun o => (calm_cells hb).1 (w.heap.size + 1) o (by first | omega | (simp <;> omega)); have kZ1 := hb.size; (try simp at kZ1)) | (go_at_call 70; (with_reducible refine (hIg.out _).mono ?_); rintro e w2 ⟨rfl, hb2⟩; have kA2 := fun o => (calm_cells hb2).1 w.heap.size o (by first | omega | (simp <;> omega)); have kB2 := fun o => (calm_cells hb2).1 (w.heap.size + 1) o (by first | omega | (simp <;> omega)); have kZ2 := hb2.size; (try simp at kZ2)))
      all_goals (go_wp2; go_ret; exact ⟨rfl, (by repeat (first | with_reducible exact Below.refl _ _ | with_reducible assumption | with_reducible apply Below.drew | with_reducible apply below_drewN | (with_reducible apply below_setp; (first | omega | (simp <;> omega))) | (with_reducible apply below_allocp; (first | omega | (simp <;> omega))) | (with_reducible refine below_viap (by assumption) ?_ ?_; (first | omega | (simp <;> omega)))))⟩)
    | true =>
      rw [hg] at hIg
      have cf : CF (disc f) f (red f) := CF.of_cls hf
      have cg : CF (disc g) g (red g) := CF.of_cls hg
      have hDf := Lib.hid (fun w => disc_cf _ _ _ w cf)
      have hDg := Lib.hid (fun w => disc_cf _ _ _ w cg)
      clear cf cg hf hg
      generalize disc f = x at *
      generalize disc g = y at *
      go_enter Tryz.func33, Tryz.ntmps33
      go_wp2
      go_region_with (first | (go_at_call 70; (with_reducible refine (hIf.out _).mono ?_); rintro e w1 ⟨rfl, hb⟩; have kA1 := fun o => (calm_cells hb).1 w.heap.size o (by first | omega | (simp <;> omega)); have kB1 := fun o => (calm_cells hb).1 (w.heap.size + 1) o (by first | omega | (simp <;> omega)); have kZ1 := hb.size; (try simp at kZ1)) | (go_at_call 70; (with_reducible refine (hIg.out _).mono ?_); rintro e w2 ⟨rfl, hb2⟩; have kA2 := fun o => (calm_cells hb2).1 w.heap.size o (by first | omega | (simp <;> omega)); have kB2 := fun o => (calm_cells hb2).1 (w.heap.size + 1) o (by first | omega | (simp <;> omega)); have kZ2 := hb2.size; (try simp at kZ2)) | (go_at_call 71; (with_reducible refine (hDf.out _).mono ?_); rintro e w3 ⟨rfl, hb3⟩; have kA3 := fun o => (calm_cells hb3).1 w.heap.size o (by first | omega | (simp <;> omega)); have kB3 := fun o => (calm_cells hb3).1 (w.heap.size + 1) o (by first | omega | (simp <;> omega)); have kZ3 := hb3.size; (try simp at kZ3)) | (go_at_call 71; (with_reducible refine (hDg.out _).mono ?_); rintro e w4 ⟨rfl, hb4⟩; have kZ4 := hb4.size; (try simp at kZ4)))
      all_goals (go_wp2; go_ret; exact ⟨ret_bool (by rw [Bool.true_and, Bool.true_and, Bool.eq_iff_iff, beq_iff_eq, decide_eq_true_iff]), (by repeat (first | with_reducible exact Below.refl _ _ | with_reducible assumption | with_reducible apply Below.drew | with_reducible apply below_drewN | (with_reducible apply below_setp; (first | omega | (simp <;> omega))) | (with_reducible apply below_allocp; (first | omega | (simp <;> omega))) | (with_reducible refine below_viap (by assumption) ?_ ?_; (first | omega | (simp <;> omega)))))⟩)
set_option maxRecDepth 100000 in
set_option maxHeartbeats 1600000 in
theorem implComp_c (f g : Fm) (w : World) (h : pairB f g = true) :
    Calls Tryz.prog 9 #[.agg #[.int .i64 f.a, .int .i64 f.b, .int .i64 f.c], .agg #[.int .i64 g.a, .int .i64 g.b, .int .i64 g.c]] w fun e w' =>
      e = .returned (.tuple #[.agg #[.int .i64 (cmp (disc f) (red f) (red g)).a, .int .i64 (cmp (disc f) (red f) (red g)).b, .int .i64 (cmp (disc f) (red f) (red g)).c], .bool true]) ∧ Below w.heap.size w w' := by
  have hP := Lib.hid (fun w => arePair_any f g w)
  rw [h] at hP
  unfold pairB at h
  simp only [Bool.and_eq_true, decide_eq_true_eq] at h
  obtain ⟨hf, hg, he⟩ := h
  have cf : CF (disc f) f (red f) := CF.of_cls hf
  have cg : CF (disc g) g (red g) := CF.of_cls hg
  rw [← he] at cg
  have hC := Lib.hid (fun w => compose_cf _ _ _ _ _ _ w cf cg rfl)
  generalize cmp (disc f) (red f) (red g) = r at *
  clear cf cg hf hg he
  go_enter Tryz.func9, Tryz.ntmps9
  go_wp2_with (first
    | (go_at_call 33; (with_reducible refine (hP.out _).mono ?_); rintro e v1 ⟨rfl, hB1⟩; have hZ1 := hB1.size; (try simp at hZ1); (try have zl1 : w.heap.size < v1.heap.size := by omega); (try have ze1 : w.heap.size ≤ v1.heap.size := by omega); (try have zn1 : ¬ w.heap.size = v1.heap.size := by omega); (try have zm1 : ¬ v1.heap.size = w.heap.size := by omega); have hA1 : Blk v1 (w.heap.size) 29 #[.int .i64 f.a, .int .i64 f.b, .int .i64 f.c] := Blk.call (by (repeat (first | with_reducible assumption | (with_reducible apply Blk.new_at; (first | rfl | (simp; done))) | with_reducible apply Blk.store3 | with_reducible apply Blk.store4 | (with_reducible apply Blk.farp; (first | omega | (simp <;> omega))) | with_reducible apply Blk.allocp | with_reducible apply Blk.drew | with_reducible apply Blk.drewN))) hB1; have cA1 := hA1.cell; have fA1 := hA1.frozen; have lA1 := hA1.lt; have mA1 := Nat.ne_of_gt lA1; have nA1 := Nat.ne_of_lt lA1; have hD1 : Blk v1 (w.heap.size + 1) 29 #[.int .i64 g.a, .int .i64 g.b, .int .i64 g.c] := Blk.call (by (repeat (first | with_reducible assumption | (with_reducible apply Blk.new_at; (first | rfl | (simp; done))) | with_reducible apply Blk.store3 | with_reducible apply Blk.store4 | (with_reducible apply Blk.farp; (first | omega | (simp <;> omega))) | with_reducible apply Blk.allocp | with_reducible apply Blk.drew | with_reducible apply Blk.drewN))) hB1; have cD1 := hD1.cell; have fD1 := hD1.frozen; have lD1 := hD1.lt; have mD1 := Nat.ne_of_gt lD1; have nD1 := Nat.ne_of_lt lD1; have hR1 : Blk v1 (w.heap.size + 1 + 1) 29 #[.int .i64 0, .int .i64 0, .int .i64 0] := Blk.call (by (repeat (first | with_reducible assumption | (with_reducible apply Blk.new_at; (first | rfl | (simp; done))) | with_reducible apply Blk.store3 | with_reducible apply Blk.store4 | (with_reducible apply Blk.farp; (first | omega | (simp <;> omega))) | with_reducible apply Blk.allocp | with_reducible apply Blk.drew | with_reducible apply Blk.drewN))) hB1; have cR1 := hR1.cell; have fR1 := hR1.frozen; have lR1 := hR1.lt; have mR1 := Nat.ne_of_gt lR1; have nR1 := Nat.ne_of_lt lR1)
    | (go_at_call 34; (with_reducible refine (hC.out _).mono ?_); rintro e v2 ⟨rfl, hB2⟩; have hZ2 := hB2.size; (try simp at hZ2); (try have zl2 : w.heap.size < v2.heap.size := by omega); (try have ze2 : w.heap.size ≤ v2.heap.size := by omega); (try have zn2 : ¬ w.heap.size = v2.heap.size := by omega); (try have zm2 : ¬ v2.heap.size = w.heap.size := by omega); have hR2 : Blk v2 (w.heap.size + 1 + 1) 29 #[.int .i64 0, .int .i64 0, .int .i64 0] := Blk.call (by (repeat (first | with_reducible assumption | (with_reducible apply Blk.new_at; (first | rfl | (simp; done))) | with_reducible apply Blk.store3 | with_reducible apply Blk.store4 | (with_reducible apply Blk.farp; (first | omega | (simp <;> omega))) | with_reducible apply Blk.allocp | with_reducible apply Blk.drew | with_reducible apply Blk.drewN))) hB2; have cR2 := hR2.cell; have fR2 := hR2.frozen; have lR2 := hR2.lt; have mR2 := Nat.ne_of_gt lR2; have nR2 := Nat.ne_of_lt lR2))
  exact bodyPost_ret (v := .tuple #[.agg #[.int .i64 r.a, .int .i64 r.b, .int .i64 r.c], .bool true]) (by simp [results, Tryz.results9, go_sem, *]) rfl ⟨rfl, (by repeat (first | with_reducible exact Below.refl _ _ | with_reducible assumption | with_reducible apply Below.drew | with_reducible apply below_drewN | (with_reducible apply below_setp; (first | omega | (simp <;> omega))) | (with_reducible apply below_allocp; (first | omega | (simp <;> omega))) | (with_reducible refine below_viap (by assumption) ?_ ?_; (first | omega | (simp <;> omega)))))⟩
end

section
open Go.RowKit

end
end Go.Proofs.YtohgccgbbipjjaaGreat
