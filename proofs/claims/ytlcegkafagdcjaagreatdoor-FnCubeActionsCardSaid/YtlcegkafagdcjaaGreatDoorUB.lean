/- Parts U9 U10 V1 V2 V3 laid together by tp.py. -/
import Derived.Test.YtlcegkafagdcjaaGreatDoorU6
import Derived.Test.YtlcegkafagdcjaaGreatDoorU8
namespace Go.Proofs.YtlcegkafagdcjaaGreatDoor
section
open Go.RowKit

set_option maxHeartbeats 800000 in
theorem composite_any (a e b c m1 m2 m3 m4 n1 n2 n3 n4 : Int) (w : World) (h1 : Far (a * e)) :
    Calls Tryz.prog 45 #[.agg #[.int .i64 a, .int .i64 e, .int .i64 b, .int .i64 c, .int .i64 m1, .int .i64 m2, .int .i64 m3, .int .i64 m4, .int .i64 n1, .int .i64 n2, .int .i64 n3, .int .i64 n4]] w fun ee w' =>
      ee = .returned (.agg #[.int .i64 (a * e), .int .i64 b, .int .i64 c]) ∧ Below w.heap.size w w' := by
  obtain ⟨h1, h2⟩ := h1
  go_enter Tryz.func45, Tryz.ntmps45
  go_wp2
  exact bodyPost_ret (v := .agg #[.int .i64 (a * e), .int .i64 b, .int .i64 c]) (by simp [results, Tryz.results45, go_sem, *]) rfl ⟨rfl, (by repeat (first | with_reducible exact Below.refl _ _ | with_reducible assumption | with_reducible apply Below.drew | with_reducible apply below_drewN | (with_reducible apply below_setp; (first | omega | (simp <;> omega))) | (with_reducible apply below_allocp; (first | omega | (simp <;> omega))) | (with_reducible refine below_viap (by assumption) ?_ ?_; (first | omega | (simp <;> omega)))))⟩

set_option maxHeartbeats 1600000 in
theorem compose_any (d : Int) (f0 g0 f g r : Fm) (w : World) (D : Dsc d) (hf : f ∈ clsL d) (hg : g ∈ clsL d) (hf0 : Def M0 f0) (hg0 : Def M0 g0) (hrf : red f0 = f) (hrg : red g0 = g) (hr : cmp d f g = r) :
    Calls Tryz.prog 50 #[.agg #[.int .i64 f0.a, .int .i64 f0.b, .int .i64 f0.c], .agg #[.int .i64 g0.a, .int .i64 g0.b, .int .i64 g0.c]] w fun ee w' =>
      ee = .returned (.agg #[.int .i64 r.a, .int .i64 r.b, .int .i64 r.c]) ∧ Below w.heap.size w w' := by
  obtain ⟨x, y, S, Q, T, e, h, k, b, c, t1, t2, u⟩ := ud_ex D hf hg
  have hU := Lib.hid (fun w => unite_any d f g x y S Q T e h k b c t1 t2 w u)
  have hcm := u.cmp
  rw [hr] at hcm
  have hR := Lib.hid (fun w => reduced_any (f.a * e) b c r.a r.b r.c w u.dfn hcm)
  have hF := Lib.hid (fun w => reduced_any f0.a f0.b f0.c f.a f.b f.c w hf0 hrf)
  have hG := Lib.hid (fun w => reduced_any g0.a g0.b g0.c g.a g.b g.c w hg0 hrg)
  obtain ⟨ae1, ae2⟩ := u.ae
  have hC := Lib.hid (fun w => composite_any f.a e b c 1 t1 0 1 (mm x 1 (Q + T * x) 0) (mm x t2 (Q + T * x) 1) (mm y 1 (S + T * y) 0) (mm y t2 (S + T * y) 1) w ⟨by omega, by omega⟩)
  generalize mm x 1 (Q + T * x) 0 = n1 at *
  generalize mm x t2 (Q + T * x) 1 = n2 at *
  generalize mm y 1 (S + T * y) 0 = n3 at *
  generalize mm y t2 (S + T * y) 1 = n4 at *
  clear u hcm hr hrf hrg ae1 ae2
  go_enter Tryz.func50, Tryz.ntmps50
  go_wp2
  refine wp_region_calm 7 (Below (w.heap.size + 3) _) (by kernel_rfl) (by kernel_rfl) ((Below.refl _ _).drew) ?_
  simp only [List.take_succ_cons, List.take_zero, List.drop_succ_cons, List.drop_zero]
  repeat (first | (apply wpCalm_go; go_simp; (intro w' hw' hcc hff; go_simp; first | exact rfl | ((with_reducible refine (hF.out _).mono ?_); rintro ee w1 ⟨rfl, hb⟩; exact ⟨rfl, calm_call (by simp <;> omega) hw' hb⟩) | ((with_reducible refine (hG.out _).mono ?_); rintro ee w1 ⟨rfl, hb⟩; exact ⟨rfl, calm_call (by simp <;> omega) hw' hb⟩) | ((with_reducible refine (hU.out _).mono ?_); rintro ee w1 ⟨rfl, hb⟩; exact ⟨rfl, calm_call (by simp <;> omega) hw' hb⟩) | ((with_reducible refine (hC.out _).mono ?_); rintro ee w1 ⟨rfl, hb⟩; exact ⟨rfl, calm_call (by simp <;> omega) hw' hb⟩) | ((with_reducible refine (hR.out _).mono ?_); rintro ee w1 ⟨rfl, hb⟩; exact ⟨rfl, calm_call (by simp <;> omega) hw' hb⟩)); (intro K hK; go_simp; refine hK _ ?_; clear hK K)) | (apply wpCalm_skip; go_simp; (try (focus (simp [undef]; done))); (intro K hK; go_simp; refine hK _ ?_; clear hK K)))
  refine wpCalm_nil ?_
  intro w1 hw1
  have hcc := (calm_cells hw1).1
  have hff := (calm_cells hw1).2
  have hss := calm_size hw1
  have hsz := hw1.size
  (try simp at hsz)
  go_wp2
  exact bodyPost_ret (v := .agg #[.int .i64 r.a, .int .i64 r.b, .int .i64 r.c]) (by simp [results, Tryz.results50, go_sem, *]) rfl ⟨rfl, (by repeat (first | with_reducible exact Below.refl _ _ | with_reducible assumption | with_reducible apply Below.drew | with_reducible apply below_drewN | (with_reducible apply below_setp; (first | omega | (simp <;> omega))) | (with_reducible apply below_allocp; (first | omega | (simp <;> omega))) | (with_reducible refine below_viap (by assumption) ?_ ?_; (first | omega | (simp <;> omega)))))⟩
end

section
open Go.RowKit

set_option maxHeartbeats 800000 in
theorem coJoined_any (a e b c z : Int) (w : World) (h1 : Far (a * e)) (h2 : Far (e * c)) (h3 : 0 < e) (h4 : Far c) :
    Calls Tryz.prog 89 #[.agg #[.int .i64 a, .int .i64 b, .int .i64 (e * c)], .agg #[.int .i64 e, .int .i64 b, .int .i64 z]] w fun ee w' =>
      ee = .returned (.agg #[.int .i64 (a * e), .int .i64 b, .int .i64 c]) ∧ Below w.heap.size w w' := by
  obtain ⟨h1, k1⟩ := h1
  obtain ⟨h2, k2⟩ := h2
  obtain ⟨h4, k4⟩ := h4
  have e0 : (e * c).tdiv e = c := Int.mul_tdiv_cancel_left _ (by omega)
  have e1 : (e == 0) = false := by rw [beq_eq_false_iff_ne]; omega
  have e2 : ¬ e = 0 := by omega
  have w1 : IntKind.i64.wrap (a * e) = a * e := IntWalk.i64_in _ (by omega)
  have w2 : IntKind.i64.wrap c = c := IntWalk.i64_in _ (by omega)
  generalize e * c = m at *
  go_enter Tryz.func89, Tryz.ntmps89
  go_wp2
  go_region_held3 (fun w' => w'.cell? ⟨w.heap.size, 0, none⟩ = some (.int .i64 (a)) ∧ w'.cell? ⟨w.heap.size, 1, none⟩ = some (.int .i64 (b)) ∧ w'.cell? ⟨w.heap.size, 2, none⟩ = some (.int .i64 (m)) ∧ w'.cell? ⟨w.heap.size + 1, 0, none⟩ = some (.int .i64 (e)) ∧ w'.cell? ⟨w.heap.size + 1, 1, none⟩ = some (.int .i64 (b)) ∧ w'.cell? ⟨w.heap.size + 1, 2, none⟩ = some (.int .i64 (z))) (first | (go_keep; done) | (go_simp; done)) (fail)
  go_wp2
  exact bodyPost_ret (v := .agg #[.int .i64 (a * e), .int .i64 b, .int .i64 c]) (by simp [results, Tryz.results89, go_sem, *]) rfl ⟨rfl, (by repeat (first | with_reducible exact Below.refl _ _ | with_reducible assumption | with_reducible apply Below.drew | with_reducible apply below_drewN | (with_reducible apply below_setp; (first | omega | (simp <;> omega))) | (with_reducible apply below_allocp; (first | omega | (simp <;> omega))) | (with_reducible refine below_viap (by assumption) ?_ ?_; (first | omega | (simp <;> omega)))))⟩

end

section
open Go.RowKit

/-- f0 is a form of the class of the reduced form f. -/
structure CF (d : Int) (f0 f : Fm) : Prop where
  D : Dsc d
  df : Def M0 f0
  rd : red f0 = f
  mem : f ∈ clsL d
  dc : disc f0 = d
  b1 : Far (f0.b * f0.b)
  b2 : Far (4 * f0.a)
  b3 : Far (4 * f0.a * f0.c)
theorem cls_def0 {d : Int} {f : Fm} (D : Dsc d) (hf : f ∈ clsL d) : Def M0 f := by
  obtain ⟨⟨f1, f2, f3, f4, f5, f6, f7⟩, _⟩ := mem_clsL D.lo hf
  have := (isRed_iff _ _ _).1 f4
  have hd := D.hi
  have e : 4 * f.a * f.c = 4 * (f.a * f.c) := Int.mul_assoc _ _ _
  unfold M0 disc at *
  exact ⟨by omega, by omega, by omega, by omega, by omega⟩
theorem CF.of_mem {d : Int} {f : Fm} (D : Dsc d) (hf : f ∈ clsL d) : CF d f f := by
  obtain ⟨⟨a1, a2⟩, ⟨b1, b2⟩, ⟨c1, c2⟩⟩ := cls_bd D.lo hf
  obtain ⟨⟨_, _, f3, f4, _⟩, _⟩ := mem_clsL D.lo hf
  have k1 := mul_bd b1 b2 b1 b2
  have k2 := mul_bd (a := 4 * f.a) (x := f.c) (A := 104) (X := 1000) (by omega) (by omega) (by omega) (by omega)
  exact ⟨D, cls_def0 D hf, red_of f4, hf, f3, ⟨by omega, by omega⟩, ⟨by omega, by omega⟩, ⟨by omega, by omega⟩⟩
theorem disc_mod (f : Fm) : disc f % 4 = 0 ∨ disc f % 4 = 1 := by
  unfold disc
  have e : 4 * f.a * f.c = 4 * (f.a * f.c) := Int.mul_assoc _ _ _
  rw [e]
  generalize f.a * f.c = m
  have h := Int.emod_add_mul_ediv f.b 2
  rcases Int.emod_two_eq f.b with h1 | h1
  · rw [h1] at h
    generalize f.b / 2 = q at h
    have : f.b * f.b = 4 * (q * q) := by rw [← h]; grind
    omega
  · rw [h1] at h
    generalize f.b / 2 = q at h
    have : f.b * f.b = 4 * (q * q + q) + 1 := by rw [← h]; grind
    omega
theorem CF.of_cls {a b c : Int} (h : isCls a b c = true) : CF (disc ⟨a, b, c⟩) ⟨a, b, c⟩ (red ⟨a, b, c⟩) := by
  obtain ⟨hd, ⟨h1, h2⟩, hp⟩ := cls_def h
  have hf : isFm a b c = true := by
    unfold isCls isShown isDefB at h; simp only [Bool.and_eq_true] at h; exact h.1.1.1
  obtain ⟨k1, k2, k3⟩ := fm_prods hf
  have hm := disc_mod ⟨a, b, c⟩
  have D : Dsc (disc ⟨a, b, c⟩) := ⟨h1, by omega, by omega⟩
  exact ⟨D, hd, rfl, mem_clsL_of h1 (red_def hd).a0 (red_disc hd) (red_isRed hd) (red_prm hd hp), rfl, k1, k2, k3⟩
theorem CF.one {d : Int} (D : Dsc d) : CF d (oneF d) (oneF d) := CF.of_mem D D.one

theorem compose_cf (d : Int) (f0 g0 f g r : Fm) (w : World) (hf : CF d f0 f) (hg : CF d g0 g) (hr : cmp d f g = r) :
    Calls Tryz.prog 50 #[.agg #[.int .i64 f0.a, .int .i64 f0.b, .int .i64 f0.c], .agg #[.int .i64 g0.a, .int .i64 g0.b, .int .i64 g0.c]] w fun ee w' =>
      ee = .returned (.agg #[.int .i64 r.a, .int .i64 r.b, .int .i64 r.c]) ∧ Below w.heap.size w w' :=
  compose_any d f0 g0 f g r w hf.D hf.mem hg.mem hf.df hg.df hf.rd hg.rd hr
theorem disc_cf (d : Int) (f0 f : Fm) (w : World) (hf : CF d f0 f) :
    Calls Tryz.prog 81 #[.agg #[.int .i64 f0.a, .int .i64 f0.b, .int .i64 f0.c]] w fun ee w' => ee = .returned (.int .i64 d) ∧ Below w.heap.size w w' := by
  have := idisc_any f0.a f0.b f0.c w hf.b1 hf.b2 hf.b3
  rw [show disc ⟨f0.a, f0.b, f0.c⟩ = d from hf.dc] at this
  exact this

theorem fm_eq {f g : Fm} (h1 : f.a = g.a) (h2 : f.b = g.b) (h3 : f.c = g.c) : f = g := by
  cases f; cases g; simp_all
def fmEq (f g : Fm) : Bool := decide (f.a = g.a) && (decide (f.b = g.b) && decide (f.c = g.c))
theorem fmEq_iff (f g : Fm) : fmEq f g = true ↔ f = g := by
  unfold fmEq
  simp only [Bool.and_eq_true, decide_eq_true_eq]
  exact ⟨fun h => fm_eq h.1 h.2.1 h.2.2, fun h => by rw [h]; exact ⟨rfl, rfl, rfl⟩⟩
theorem fmEq_no (f g : Fm) : fmEq f g = false ↔ f ≠ g := by rw [← Bool.not_eq_true, fmEq_iff]

theorem CF.cmp {d : Int} {f g : Fm} (hf : CF d f f) (hg : CF d g g) : CF d (cmp d f g) (cmp d f g) := CF.of_mem hf.D (hf.D.cmpm hf.mem hg.mem)

end

section
open Go.RowKit

end

section
open Go.RowKit

theorem foDisc_cf (d : Int) (f0 f : Fm) (w : World) (hf : CF d f0 f) :
    Calls Tryz.prog 78 #[.agg #[.int .i64 f0.a, .int .i64 f0.b, .int .i64 f0.c]] w fun ee w' => ee = .returned (.int .i64 d) ∧ Below w.heap.size w w' := by
  have := sdisc_any f0.a f0.b f0.c w hf.b1 hf.b2 hf.b3
  rw [show disc ⟨f0.a, f0.b, f0.c⟩ = d from hf.dc] at this
  exact this

set_option maxHeartbeats 400000 in
theorem coOne_any (d : Int) (o : Fm) (w : World) (D : Dsc d) (ho : oneF d = o) :
    Calls Tryz.prog 96 #[.int .i64 d] w fun ee w' => ee = .returned (.agg #[.int .i64 o.a, .int .i64 o.b, .int .i64 o.c]) ∧ Below w.heap.size w w' := by
  have ea : o.a = 1 := by rw [← ho]; rfl
  have eb : o.b = d % 2 := by rw [← ho]; rfl
  have ec : o.c = (d % 2 - d) / 4 := by rw [← ho]; rfl
  have h1 := D.lo; have h2 := D.hi
  have h3 := Int.emod_nonneg d (show (2 : Int) ≠ 0 by omega)
  have h4 := Int.emod_lt_of_pos d (show (0 : Int) < 2 by omega)
  rw [ea, eb, ec]
  have hM := Lib.hid (fun w => nuMod_any d 2 w (by omega) (by omega))
  generalize d % 2 = m at *
  clear ho ea eb ec
  go_enter Tryz.func96, Tryz.ntmps96
  go_wp2_with (go_at_call 95; (with_reducible refine (hM.out _).mono ?_); rintro e v ⟨rfl, rfl⟩)
  exact bodyPost_ret (v := .agg #[.int .i64 1, .int .i64 m, .int .i64 ((m - d) / 4)]) (by simp [results, Tryz.results96, go_sem, *]) rfl ⟨rfl, (by repeat (first | with_reducible exact Below.refl _ _ | with_reducible assumption | with_reducible apply Below.drew | with_reducible apply below_drewN | (with_reducible apply below_setp; (first | omega | (simp <;> omega))) | (with_reducible apply below_allocp; (first | omega | (simp <;> omega))) | (with_reducible refine below_viap (by assumption) ?_ ?_; (first | omega | (simp <;> omega)))))⟩

end
end Go.Proofs.YtlcegkafagdcjaaGreatDoor
