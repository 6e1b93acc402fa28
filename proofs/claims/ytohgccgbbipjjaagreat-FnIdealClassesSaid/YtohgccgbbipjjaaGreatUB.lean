/- Parts U9 U10 V1 V2 V3 laid together by tp.py. -/
import Derived.Test.YtohgccgbbipjjaaGreatU6
import Derived.Test.YtohgccgbbipjjaaGreatU8
namespace Go.Proofs.YtohgccgbbipjjaaGreat
section
open Go.RowKit

set_option maxHeartbeats 800000 in
theorem composite_any (a e b c m1 m2 m3 m4 n1 n2 n3 n4 : Int) (w : World) (h1 : Far (a * e)) :
    Calls Tryz.prog 73 #[.agg #[.int .i64 a, .int .i64 e, .int .i64 b, .int .i64 c, .int .i64 m1, .int .i64 m2, .int .i64 m3, .int .i64 m4, .int .i64 n1, .int .i64 n2, .int .i64 n3, .int .i64 n4]] w fun ee w' =>
      ee = .returned (.agg #[.int .i64 (a * e), .int .i64 b, .int .i64 c]) ∧ Below w.heap.size w w' := by
  obtain ⟨h1, h2⟩ := h1
  go_enter Tryz.func73, Tryz.ntmps73
  go_wp2
  exact bodyPost_ret (v := .agg #[.int .i64 (a * e), .int .i64 b, .int .i64 c]) (by simp [results, Tryz.results73, go_sem, *]) rfl ⟨rfl, (by repeat (first | with_reducible exact Below.refl _ _ | with_reducible assumption | with_reducible apply Below.drew | with_reducible apply below_drewN | (with_reducible apply below_setp; (first | omega | (simp <;> omega))) | (with_reducible apply below_allocp; (first | omega | (simp <;> omega))) | (with_reducible refine below_viap (by assumption) ?_ ?_; (first | omega | (simp <;> omega)))))⟩

set_option maxHeartbeats 1600000 in
theorem compose_any (d : Int) (f0 g0 f g r : Fm) (w : World) (D : Dsc d) (hf : f ∈ clsL d) (hg : g ∈ clsL d) (hf0 : Def M0 f0) (hg0 : Def M0 g0) (hrf : red f0 = f) (hrg : red g0 = g) (hr : cmp d f g = r) :
    Calls Tryz.prog 34 #[.agg #[.int .i64 f0.a, .int .i64 f0.b, .int .i64 f0.c], .agg #[.int .i64 g0.a, .int .i64 g0.b, .int .i64 g0.c]] w fun ee w' =>
      ee = .returned (.agg #[.int .i64 r.a, .int .i64 r.b, .int .i64 r.c]) ∧ Below w.heap.size w w' := by
  obtain ⟨x, y, S, Q, T, e, h, k, b, c, t1, t2, u⟩ := ud_ex D hf hg
  have hU := Lib.hid (fun w => unite_any d f g x y S Q T e h k b c t1 t2 w u)
  have hcm := u.cmp
  rw [hr] at hcm
  have hR := Lib.hid (fun w => reduced_any (f.a * e) b c r.a r.b r.c w u.dfn hcm)
  have hF := Lib.hid (fun w => reduced_any f0.a f0.b f0.c f.a f.b f.c w hf0 hrf)
  have hG := Lib.hid (fun w => reduced_any g0.a g0.b g0.c g.a g.b g.c w hg0 hrg)
  obtain ⟨ae1, ae2⟩ := u.ae
  have hC := Lib.hid (fun w => composite_any f.a e b c 1 t1 0 1 (mm x 1 (Q + T * x) 0) (mm x t2 (Q + T * x) 1) (mm y 1 (S + T * y) 0) (mm y t2 (S + T * y) 1) w ⟨by omega, by omega⟩)
  generalize mm x 1 (Q + T * x) 0 = n1 at *
  generalize mm x t2 (Q + T * x) 1 = n2 at *
  generalize mm y 1 (S + T * y) 0 = n3 at *
  generalize mm y t2 (S + T * y) 1 = n4 at *
  clear u hcm hr hrf hrg ae1 ae2
  go_enter Tryz.func34, Tryz.ntmps34
  go_wp2
  refine wp_region_calm 7 (Below (w.heap.size + 3) _) (by kernel_rfl) (by kernel_rfl) ((Below.refl _ _).drew) ?_
  simp only [List.take_succ_cons, List.take_zero, List.drop_succ_cons, List.drop_zero]
  repeat (first | (apply wpCalm_go; go_simp; (intro w' hw' hcc hff; go_simp; first | exact rfl | ((with_reducible refine (hF.out _).mono ?_); rintro ee w1 ⟨rfl, hb⟩; exact ⟨rfl, calm_call (by simp <;> omega) hw' hb⟩) | ((with_reducible refine (hG.out _).mono ?_); rintro ee w1 ⟨rfl, hb⟩; exact ⟨rfl, calm_call (by simp <;> omega) hw' hb⟩) | ((with_reducible refine (hU.out _).mono ?_); rintro ee w1 ⟨rfl, hb⟩; exact ⟨rfl, calm_call (by simp <;> omega) hw' hb⟩) | ((with_reducible refine (hC.out _).mono ?_); rintro ee w1 ⟨rfl, hb⟩; exact ⟨rfl, calm_call (by simp <;> omega) hw' hb⟩) | ((with_reducible refine (hR.out _).mono ?_); rintro ee w1 ⟨rfl, hb⟩; exact ⟨rfl, calm_call (by simp <;> omega) hw' hb⟩)); (intro K hK; go_simp; refine hK _ ?_; clear hK K)) | (apply wpCalm_skip; go_simp; (try (focus (simp [undef]; done))); (intro K hK; go_simp; refine hK _ ?_; clear hK K)))
  refine wpCalm_nil ?_
  intro w1 hw1
  have hcc := (calm_cells hw1).1
  have hff := (calm_cells hw1).2
  have hss := calm_size hw1
  have hsz := hw1.size
  (try simp at hsz)
  go_wp2
  exact bodyPost_ret (v := .agg #[.int .i64 r.a, .int .i64 r.b, .int .i64 r.c]) (by simp [results, Tryz.results34, go_sem, *]) rfl ⟨rfl, (by repeat (first | with_reducible exact Below.refl _ _ | with_reducible assumption | with_reducible apply Below.drew | with_reducible apply below_drewN | (with_reducible apply below_setp; (first | omega | (simp <;> omega))) | (with_reducible apply below_allocp; (first | omega | (simp <;> omega))) | (with_reducible refine below_viap (by assumption) ?_ ?_; (first | omega | (simp <;> omega)))))⟩
end

section
open Go.RowKit

set_option maxHeartbeats 800000 in
theorem coJoined_any (a e b c z : Int) (w : World) (h1 : Far (a * e)) (h2 : Far (e * c)) (h3 : 0 < e) (h4 : Far c) :
    Calls Tryz.prog 124 #[.agg #[.int .i64 a, .int .i64 b, .int .i64 (e * c)], .agg #[.int .i64 e, .int .i64 b, .int .i64 z]] w fun ee w' =>
      ee = .returned (.agg #[.int .i64 (a * e), .int .i64 b, .int .i64 c]) ∧ Below w.heap.size w w' := by
  obtain ⟨h1, k1⟩ := h1
  obtain ⟨h2, k2⟩ := h2
  obtain ⟨h4, k4⟩ := h4
  have e0 : (e * c).tdiv e = c := Int.mul_tdiv_cancel_left _ (by omega)
  have e1 : (e == 0) = false := by rw [beq_eq_false_iff_ne]; omega
  have e2 : ¬ e = 0 := by omega
  have w1 : IntKind.i64.wrap (a * e) = a * e := IntWalk.i64_in _ (by omega)
  have w2 : IntKind.i64.wrap c = c := IntWalk.i64_in _ (by omega)
  generalize e * c = m at *
  go_enter Tryz.func124, Tryz.ntmps124
  go_wp2
  go_region_held3 (fun w' => w'.cell? ⟨w.heap.size, 0, none⟩ = some (.int .i64 (a)) ∧ w'.cell? ⟨w.heap.size, 1, none⟩ = some (.int .i64 (b)) ∧ w'.cell? ⟨w.heap.size, 2, none⟩ = some (.int .i64 (m)) ∧ w'.cell? ⟨w.heap.size + 1, 0, none⟩ = some (.int .i64 (e)) ∧ w'.cell? ⟨w.heap.size + 1, 1, none⟩ = some (.int .i64 (b)) ∧ w'.cell? ⟨w.heap.size + 1, 2, none⟩ = some (.int .i64 (z))) (first | (go_keep; done) | (go_simp; done)) (fail)
  go_wp2
  exact bodyPost_ret (v := .agg #[.int .i64 (a * e), .int .i64 b, .int .i64 c]) (by simp [results, Tryz.results124, go_sem, *]) rfl ⟨rfl, (by repeat (first | with_reducible exact Below.refl _ _ | with_reducible assumption | with_reducible apply Below.drew | with_reducible apply below_drewN | (with_reducible apply below_setp; (first | omega | (simp <;> omega))) | (with_reducible apply below_allocp; (first | omega | (simp <;> omega))) | (with_reducible refine below_viap (by assumption) ?_ ?_; (first | omega | (simp <;> omega)))))⟩

set_option maxHeartbeats 1600000 in
theorem coMul_any (d : Int) (f0 g0 f g r : Fm) (w : World) (D : Dsc d) (hf : f ∈ clsL d) (hg : g ∈ clsL d) (hf0 : Def M0 f0) (hg0 : Def M0 g0) (hrf : red f0 = f) (hrg : red g0 = g) (hr : cmp d f g = r) :
    Calls Tryz.prog 103 #[.agg #[.int .i64 f0.a, .int .i64 f0.b, .int .i64 f0.c], .agg #[.int .i64 g0.a, .int .i64 g0.b, .int .i64 g0.c]] w fun ee w' =>
      ee = .returned (.agg #[.int .i64 r.a, .int .i64 r.b, .int .i64 r.c]) ∧ Below w.heap.size w w' := by
  obtain ⟨x, y, S, Q, T, e, h, k, b, c, t1, t2, u⟩ := ud_ex D hf hg
  have hU := Lib.hid (fun w => coUnite_any d f0 g0 f g x y S Q T e h k b c t1 t2 w u hf0 hg0 hrf hrg)
  have hcm := u.cmp
  rw [hr] at hcm
  have hR := Lib.hid (fun w => reClass_any (f.a * e) b c r.a r.b r.c w u.dfn hcm)
  obtain ⟨ae1, ae2⟩ := u.ae
  obtain ⟨e1, e2⟩ := u.e_pos
  obtain ⟨c1, c2⟩ := u.c_bd
  have bec := mul_bd (a := e) (x := c) (A := 20000) (X := 1000000) (by omega) (by omega) (by omega) (by omega)
  have hJ := Lib.hid (fun w => coJoined_any f.a e b c (f.a * c) w ⟨by omega, by omega⟩ ⟨by omega, by omega⟩ e1 ⟨by omega, by omega⟩)
  generalize f.a * e = l at *
  generalize f.a = a at *
  clear u hcm hr hrf hrg ae1 ae2
  go_enter Tryz.func103, Tryz.ntmps103
  go_wp2_with (first
    | (go_at_call 123; (with_reducible refine (hU.out _).mono ?_); rintro ee v1 ⟨m1, m2, m3, m4, n1, n2, n3, n4, rfl, hB1⟩; have hZ1 := hB1.size; (try simp at hZ1); have hP1 : Blk v1 (w.heap.size + 1 + 1) 29 #[.int .i64 0, .int .i64 0, .int .i64 0] := Blk.call (by (repeat (first | with_reducible assumption | (with_reducible apply Blk.new_at; (first | rfl | (simp; done))) | with_reducible apply Blk.store3 | with_reducible apply Blk.store4 | (with_reducible apply Blk.farp; (first | omega | (simp <;> omega))) | with_reducible apply Blk.allocp | with_reducible apply Blk.drew | with_reducible apply Blk.drewN))) hB1; have cP1 := hP1.cell; have fP1 := hP1.frozen; have lP1 := hP1.lt; have zl1 : w.heap.size < v1.heap.size := by omega)
    | (go_at_call 124; (with_reducible refine (hJ.out _).mono ?_); rintro e v2 ⟨rfl, hB2⟩; have hZ2 := hB2.size; (try simp at hZ2); (try have zl2 : w.heap.size < v2.heap.size := by omega); (try have ze2 : w.heap.size ≤ v2.heap.size := by omega); (try have zn2 : ¬ w.heap.size = v2.heap.size := by omega); (try have zm2 : ¬ v2.heap.size = w.heap.size := by omega); have hP2 : Blk v2 (w.heap.size + 1 + 1) 29 #[.int .i64 0, .int .i64 0, .int .i64 0] := Blk.call (by (repeat (first | with_reducible assumption | (with_reducible apply Blk.new_at; (first | rfl | (simp; done))) | with_reducible apply Blk.store3 | with_reducible apply Blk.store4 | (with_reducible apply Blk.farp; (first | omega | (simp <;> omega))) | with_reducible apply Blk.allocp | with_reducible apply Blk.drew | with_reducible apply Blk.drewN))) hB2; have cP2 := hP2.cell; have fP2 := hP2.frozen; have lP2 := hP2.lt; have mP2 := Nat.ne_of_gt lP2; have nP2 := Nat.ne_of_lt lP2)
    | (go_at_call 68; (with_reducible refine (hR.out _).mono ?_); rintro e v3 ⟨rfl, hB3⟩; have hZ3 := hB3.size; (try simp at hZ3); (try have zl3 : w.heap.size < v3.heap.size := by omega); (try have ze3 : w.heap.size ≤ v3.heap.size := by omega); (try have zn3 : ¬ w.heap.size = v3.heap.size := by omega); (try have zm3 : ¬ v3.heap.size = w.heap.size := by omega); have hP3 : Blk v3 (w.heap.size + 1 + 1) 29 #[.int .i64 0, .int .i64 0, .int .i64 0] := Blk.call (by (repeat (first | with_reducible assumption | (with_reducible apply Blk.new_at; (first | rfl | (simp; done))) | with_reducible apply Blk.store3 | with_reducible apply Blk.store4 | (with_reducible apply Blk.farp; (first | omega | (simp <;> omega))) | with_reducible apply Blk.allocp | with_reducible apply Blk.drew | with_reducible apply Blk.drewN))) hB3; have cP3 := hP3.cell; have fP3 := hP3.frozen; have lP3 := hP3.lt; have mP3 := Nat.ne_of_gt lP3; have nP3 := Nat.ne_of_lt lP3))
  exact bodyPost_ret (v := .agg #[.int .i64 r.a, .int .i64 r.b, .int .i64 r.c]) (by simp [results, Tryz.results103, go_sem, *]) rfl ⟨rfl, (by repeat (first | with_reducible exact Below.refl _ _ | with_reducible assumption | with_reducible apply Below.drew | with_reducible apply below_drewN | (with_reducible apply below_setp; (first | omega | (simp <;> omega))) | (with_reducible apply below_allocp; (first | omega | (simp <;> omega))) | (with_reducible refine below_viap (by assumption) ?_ ?_; (first | omega | (simp <;> omega)))))⟩
end

section
open Go.RowKit

/-- f0 is a form of the class of the reduced form f. -/
structure CF (d : Int) (f0 f : Fm) : Prop where
  D : Dsc d
  df : Def M0 f0
  rd : red f0 = f
  mem : f ∈ clsL d
  dc : disc f0 = d
  b1 : Far (f0.b * f0.b)
  b2 : Far (4 * f0.a)
  b3 : Far (4 * f0.a * f0.c)
theorem cls_def0 {d : Int} {f : Fm} (D : Dsc d) (hf : f ∈ clsL d) : Def M0 f := by
  obtain ⟨⟨f1, f2, f3, f4, f5, f6, f7⟩, _⟩ := mem_clsL D.lo hf
  have := (isRed_iff _ _ _).1 f4
  have hd := D.hi
  have e : 4 * f.a * f.c = 4 * (f.a * f.c) := Int.mul_assoc _ _ _
  unfold M0 disc at *
  exact ⟨by omega, by omega, by omega, by omega, by omega⟩
theorem CF.of_mem {d : Int} {f : Fm} (D : Dsc d) (hf : f ∈ clsL d) : CF d f f := by
  obtain ⟨⟨a1, a2⟩, ⟨b1, b2⟩, ⟨c1, c2⟩⟩ := cls_bd D.lo hf
  obtain ⟨⟨_, _, f3, f4, _⟩, _⟩ := mem_clsL D.lo hf
  have k1 := mul_bd b1 b2 b1 b2
  have k2 := mul_bd (a := 4 * f.a) (x := f.c) (A := 104) (X := 1000) (by omega) (by omega) (by omega) (by omega)
  exact ⟨D, cls_def0 D hf, red_of f4, hf, f3, ⟨by omega, by omega⟩, ⟨by omega, by omega⟩, ⟨by omega, by omega⟩⟩
theorem disc_mod (f : Fm) : disc f % 4 = 0 ∨ disc f % 4 = 1 := by
  unfold disc
  have e : 4 * f.a * f.c = 4 * (f.a * f.c) := Int.mul_assoc _ _ _
  rw [e]
  generalize f.a * f.c = m
  have h := Int.emod_add_mul_ediv f.b 2
  rcases Int.emod_two_eq f.b with h1 | h1
  · rw [h1] at h
    generalize f.b / 2 = q at h
    have : f.b * f.b = 4 * (q * q) := by rw [← h]; grind
    omega
  · rw [h1] at h
    generalize f.b / 2 = q at h
    have : f.b * f.b = 4 * (q * q + q) + 1 := by rw [← h]; grind
    omega
theorem CF.of_cls {a b c : Int} (h : isCls a b c = true) : CF (disc ⟨a, b, c⟩) ⟨a, b, c⟩ (red ⟨a, b, c⟩) := by
  obtain ⟨hd, ⟨h1, h2⟩, hp⟩ := cls_def h
  have hf : isFm a b c = true := by
    unfold isCls isShown isDefB at h; simp only [Bool.and_eq_true] at h; exact h.1.1.1
  obtain ⟨k1, k2, k3⟩ := fm_prods hf
  have hm := disc_mod ⟨a, b, c⟩
  have D : Dsc (disc ⟨a, b, c⟩) := ⟨h1, by omega, by omega⟩
  exact ⟨D, hd, rfl, mem_clsL_of h1 (red_def hd).a0 (red_disc hd) (red_isRed hd) (red_prm hd hp), rfl, k1, k2, k3⟩
theorem CF.one {d : Int} (D : Dsc d) : CF d (oneF d) (oneF d) := CF.of_mem D D.one

theorem compose_cf (d : Int) (f0 g0 f g r : Fm) (w : World) (hf : CF d f0 f) (hg : CF d g0 g) (hr : cmp d f g = r) :
    Calls Tryz.prog 34 #[.agg #[.int .i64 f0.a, .int .i64 f0.b, .int .i64 f0.c], .agg #[.int .i64 g0.a, .int .i64 g0.b, .int .i64 g0.c]] w fun ee w' =>
      ee = .returned (.agg #[.int .i64 r.a, .int .i64 r.b, .int .i64 r.c]) ∧ Below w.heap.size w w' :=
  compose_any d f0 g0 f g r w hf.D hf.mem hg.mem hf.df hg.df hf.rd hg.rd hr
theorem disc_cf (d : Int) (f0 f : Fm) (w : World) (hf : CF d f0 f) :
    Calls Tryz.prog 71 #[.agg #[.int .i64 f0.a, .int .i64 f0.b, .int .i64 f0.c]] w fun ee w' => ee = .returned (.int .i64 d) ∧ Below w.heap.size w w' := by
  have := idisc_any f0.a f0.b f0.c w hf.b1 hf.b2 hf.b3
  rw [show disc ⟨f0.a, f0.b, f0.c⟩ = d from hf.dc] at this
  exact this

theorem fm_eq {f g : Fm} (h1 : f.a = g.a) (h2 : f.b = g.b) (h3 : f.c = g.c) : f = g := by
  cases f; cases g; simp_all
def fmEq (f g : Fm) : Bool := decide (f.a = g.a) && (decide (f.b = g.b) && decide (f.c = g.c))
theorem fmEq_iff (f g : Fm) : fmEq f g = true ↔ f = g := by
  unfold fmEq
  simp only [Bool.and_eq_true, decide_eq_true_eq]
  exact ⟨fun h => fm_eq h.1 h.2.1 h.2.2, fun h => by rw [h]; exact ⟨rfl, rfl, rfl⟩⟩
theorem fmEq_no (f g : Fm) : fmEq f g = false ↔ f ≠ g := by rw [← Bool.not_eq_true, fmEq_iff]

theorem fm_cases (f o : Fm) : (f = o ∧ fmEq f o = true) ∨ (fmEq f o = false ∧ ¬ f.a = o.a) ∨ (fmEq f o = false ∧ (f.a = o.a) = True ∧ ¬ f.b = o.b) ∨ (fmEq f o = false ∧ (f.a = o.a) = True ∧ (f.b = o.b) = True ∧ ¬ f.c = o.c) := by
  by_cases h : f = o
  · exact .inl ⟨h, (fmEq_iff f o).2 h⟩
  · have hn := (fmEq_no f o).2 h
    by_cases h1 : f.a = o.a
    · by_cases h2 : f.b = o.b
      · by_cases h3 : f.c = o.c
        · exact absurd (fm_eq h1 h2 h3) h
        · exact .inr (.inr (.inr ⟨hn, eq_true h1, eq_true h2, h3⟩))
      · exact .inr (.inr (.inl ⟨hn, eq_true h1, h2⟩))
    · exact .inr (.inl ⟨hn, h1⟩)

theorem CF.cmp {d : Int} {f g : Fm} (hf : CF d f f) (hg : CF d g g) : CF d (cmp d f g) (cmp d f g) := CF.of_mem hf.D (hf.D.cmpm hf.mem hg.mem)

end

section
open Go.RowKit

/-- The state of the order's loop. -/
def OrdSt (d : Int) (f0 f : Fm) (N : Nat) (w : World) (vk vp : Value) (wr : World) : Prop :=
  ∃ (j : Nat) (p : Fm) (P : Nat), vk = .int .i64 j ∧ vp = .pointer (some ⟨P, 0, none⟩) ∧ 1 ≤ j ∧ j ≤ N ∧ Hid (CF d p p) ∧ Hid (pw d f j = p) ∧ Blk wr w.heap.size 29 #[.int .i64 f0.a, .int .i64 f0.b, .int .i64 f0.c] ∧
    Blk wr P 29 #[.int .i64 p.a, .int .i64 p.b, .int .i64 p.c] ∧ w.heap.size < P ∧ Below w.heap.size w wr
theorem ord_end {d : Int} {f p o : Fm} {N j : Nat} (hN : IsOrd d f N) (ho : oneF d = o) (h1 : 1 ≤ j) (hj : j ≤ N) (hp : pw d f j = p) (hpo : p = o) : j = N := by
  rcases Nat.lt_or_ge j N with h | h
  · exact absurd (by rw [hp, hpo, ho]) (hN.2.2 j h1 h)
  · omega
theorem ord_more {d : Int} {f p o : Fm} {N j : Nat} (hN : IsOrd d f N) (ho : oneF d = o) (hj : j ≤ N) (hp : pw d f j = p) (hpo : p ≠ o) : j < N := by
  rcases Nat.lt_or_ge j N with h | h
  · exact h
  · have : j = N := by omega
    subst this
    exact absurd (by rw [← hp, hN.2.1, ho]) hpo

end

section
open Go.RowKit

theorem coMul_cf (d : Int) (f0 g0 f g r : Fm) (w : World) (hf : CF d f0 f) (hg : CF d g0 g) (hr : cmp d f g = r) :
    Calls Tryz.prog 103 #[.agg #[.int .i64 f0.a, .int .i64 f0.b, .int .i64 f0.c], .agg #[.int .i64 g0.a, .int .i64 g0.b, .int .i64 g0.c]] w fun ee w' =>
      ee = .returned (.agg #[.int .i64 r.a, .int .i64 r.b, .int .i64 r.c]) ∧ Below w.heap.size w w' :=
  coMul_any d f0 g0 f g r w hf.D hf.mem hg.mem hf.df hg.df hf.rd hg.rd hr
theorem reClass_cf (d : Int) (f0 f : Fm) (w : World) (hf : CF d f0 f) :
    Calls Tryz.prog 68 #[.agg #[.int .i64 f0.a, .int .i64 f0.b, .int .i64 f0.c]] w fun ee w' => ee = .returned (.agg #[.int .i64 f.a, .int .i64 f.b, .int .i64 f.c]) ∧ Below w.heap.size w w' :=
  reClass_any f0.a f0.b f0.c f.a f.b f.c w hf.df hf.rd
theorem foDisc_cf (d : Int) (f0 f : Fm) (w : World) (hf : CF d f0 f) :
    Calls Tryz.prog 81 #[.agg #[.int .i64 f0.a, .int .i64 f0.b, .int .i64 f0.c]] w fun ee w' => ee = .returned (.int .i64 d) ∧ Below w.heap.size w w' := by
  have := sdisc_any f0.a f0.b f0.c w hf.b1 hf.b2 hf.b3
  rw [show disc ⟨f0.a, f0.b, f0.c⟩ = d from hf.dc] at this
  exact this

set_option maxHeartbeats 400000 in
theorem coOne_any (d : Int) (o : Fm) (w : World) (D : Dsc d) (ho : oneF d = o) :
    Calls Tryz.prog 49 #[.int .i64 d] w fun ee w' => ee = .returned (.agg #[.int .i64 o.a, .int .i64 o.b, .int .i64 o.c]) ∧ Below w.heap.size w w' := by
  have ea : o.a = 1 := by rw [← ho]; rfl
  have eb : o.b = d % 2 := by rw [← ho]; rfl
  have ec : o.c = (d % 2 - d) / 4 := by rw [← ho]; rfl
  have h1 := D.lo; have h2 := D.hi
  have h3 := Int.emod_nonneg d (show (2 : Int) ≠ 0 by omega)
  have h4 := Int.emod_lt_of_pos d (show (0 : Int) < 2 by omega)
  rw [ea, eb, ec]
  have hM := Lib.hid (fun w => nuMod_any d 2 w (by omega) (by omega))
  generalize d % 2 = m at *
  clear ho ea eb ec
  go_enter Tryz.func49, Tryz.ntmps49
  go_wp2_with (go_at_call 58; (with_reducible refine (hM.out _).mono ?_); rintro e v ⟨rfl, rfl⟩)
  exact bodyPost_ret (v := .agg #[.int .i64 1, .int .i64 m, .int .i64 ((m - d) / 4)]) (by simp [results, Tryz.results49, go_sem, *]) rfl ⟨rfl, (by repeat (first | with_reducible exact Below.refl _ _ | with_reducible assumption | with_reducible apply Below.drew | with_reducible apply below_drewN | (with_reducible apply below_setp; (first | omega | (simp <;> omega))) | (with_reducible apply below_allocp; (first | omega | (simp <;> omega))) | (with_reducible refine below_viap (by assumption) ?_ ?_; (first | omega | (simp <;> omega)))))⟩

set_option maxHeartbeats 1600000 in
theorem coOrder_any (d : Int) (f0 f : Fm) (N : Nat) (w : World) (hf : CF d f0 f) (hN : IsOrd d f N) (hN2 : N ≤ 1640) :
    Calls Tryz.prog 80 #[.agg #[.int .i64 f0.a, .int .i64 f0.b, .int .i64 f0.c]] w fun ee w' => ee = .returned (.int .i64 N) ∧ Below w.heap.size w w' := by
  obtain ⟨o, ho⟩ : ∃ o, oneF d = o := ⟨_, rfl⟩
  have HN := Lib.hid hN
  have Ho := Lib.hid ho
  have Hf := Lib.hid hf
  have hF := Lib.hid (CF.of_mem hf.D hf.mem)
  have hp1 := Lib.hid (hf.D.pw_one hf.mem)
  have hN1 := hN.1
  have hD := Lib.hid (fun w => foDisc_cf d f f w (CF.of_mem hf.D hf.mem))
  have hP := Lib.hid (fun w => coOne_any d o w hf.D ho)
  clear hN hf ho
  go_enter Tryz.func80, Tryz.ntmps80
  go_wp2_with ((go_at_call 68; (with_reducible refine (reClass_cf d f0 f _ Hf.out).mono ?_); rintro e v1 ⟨rfl, hB1⟩; have hZ1 := hB1.size; (try simp at hZ1); (try have zl1 : w.heap.size < v1.heap.size := by omega); (try have ze1 : w.heap.size ≤ v1.heap.size := by omega); (try have zn1 : ¬ w.heap.size = v1.heap.size := by omega); (try have zm1 : ¬ v1.heap.size = w.heap.size := by omega); have hA1 : Blk v1 (w.heap.size) 29 #[.int .i64 f0.a, .int .i64 f0.b, .int .i64 f0.c] := Blk.call (by (repeat (first | with_reducible assumption | (with_reducible apply Blk.new_at; (first | rfl | (simp; done))) | with_reducible apply Blk.store3 | with_reducible apply Blk.store4 | (with_reducible apply Blk.farp; (first | omega | (simp <;> omega))) | with_reducible apply Blk.allocp | with_reducible apply Blk.drew | with_reducible apply Blk.drewN))) hB1; have cA1 := hA1.cell; have fA1 := hA1.frozen; have lA1 := hA1.lt; have mA1 := Nat.ne_of_gt lA1; have nA1 := Nat.ne_of_lt lA1))
  go_loopw [3, 4] (fun vk vp wr => OrdSt d f f N w vk vp wr) (fun vk _ _ => 2000 - (intOf vk).toNat)
  case atStart => exact ⟨1, f, _, rfl, rfl, Nat.le_refl _, hN1, hF, hp1, by (repeat (first | with_reducible assumption | (with_reducible apply Blk.new_at; (first | rfl | (simp; done))) | with_reducible apply Blk.store3 | with_reducible apply Blk.store4 | (with_reducible apply Blk.farp; (first | omega | (simp <;> omega))) | with_reducible apply Blk.allocp | with_reducible apply Blk.drew | with_reducible apply Blk.drewN)), by (repeat (first | with_reducible assumption | (with_reducible apply Blk.new_at; (first | rfl | (simp; done))) | with_reducible apply Blk.store3 | with_reducible apply Blk.store4 | (with_reducible apply Blk.farp; (first | omega | (simp <;> omega))) | with_reducible apply Blk.allocp | with_reducible apply Blk.drew | with_reducible apply Blk.drewN)), by omega, (by repeat (first | with_reducible exact Below.refl _ _ | with_reducible assumption | with_reducible apply Below.drew | with_reducible apply below_drewN | (with_reducible apply below_setp; (first | omega | (simp <;> omega))) | (with_reducible apply below_allocp; (first | omega | (simp <;> omega))) | (with_reducible refine below_viap (by assumption) ?_ ?_; (first | omega | (simp <;> omega)))))⟩
  case round =>
    obtain ⟨j, p, P, rfl, rfl, hj1, hjN, hcp, hpj, hA, hP1, hlt, hbel⟩ := hrel
    have lA := hA.lt; have lP := hP1.lt
    have cA := hA.cell; have fA := hA.frozen; have cP := hP1.cell; have fP := hP1.frozen
    have y1 : ¬ P = w.heap.size := by omega
    have y2 : ¬ w.heap.size = P := by omega
    have k1 : w.heap.size < wr.heap.size := lA
    by_cases hpo : p = o
    · have hjn := ord_end HN.out Ho.out hj1 hjN hpj.out hpo
      subst hpo
      subst hjn
      go_wp2_with fail
      refine wp_region_calm 5 (Below (wr.heap.size) _) (by kernel_rfl) (by kernel_rfl) ((Below.refl _ _).drew) ?_
      simp only [List.take_succ_cons, List.take_zero, List.drop_succ_cons, List.drop_zero]
      repeat (first | (apply wpCalm_go; go_simp; (intro w' hw' hcc hff; go_simp; first | exact rfl | ((with_reducible refine (hD.out _).mono ?_); rintro ee w1 ⟨rfl, hb⟩; exact ⟨rfl, calm_call (by simp <;> omega) hw' hb⟩) | ((with_reducible refine (hP.out _).mono ?_); rintro ee w1 ⟨rfl, hb⟩; exact ⟨rfl, calm_call (by simp <;> omega) hw' hb⟩)); (intro K hK; go_simp; refine hK _ ?_; clear hK K)) | (apply wpCalm_skip; go_simp; (try (focus (simp [undef]; done))); (intro K hK; go_simp; refine hK _ ?_; clear hK K)))
      refine wpCalm_nil ?_
      intro w1 hw1
      have hcc := (calm_cells hw1).1
      have hff := (calm_cells hw1).2
      have hss := calm_size hw1
      have hsz := hw1.size
      (try simp at hsz)
      go_wp2
      go_ret
      exact ⟨rfl, (by repeat (first | with_reducible exact Below.refl _ _ | with_reducible assumption | with_reducible apply Below.drew | with_reducible apply below_drewN | (with_reducible apply below_setp; (first | omega | (simp <;> omega))) | (with_reducible apply below_allocp; (first | omega | (simp <;> omega))) | (with_reducible refine below_viap (by assumption) ?_ ?_; (first | omega | (simp <;> omega)))))⟩
    · have hjn := ord_more HN.out Ho.out hjN hpj.out hpo
      obtain ⟨p2, hp2⟩ : ∃ p2, cmp d p f = p2 := ⟨_, rfl⟩
      have hc := Lib.hid (fun w => coMul_cf d p f p f p2 w hcp.out hF.out hp2)
      have cp2 : Hid (CF d p2 p2) := Lib.hid (by rw [← hp2]; exact CF.of_mem hcp.out.D (hcp.out.D.cmpm hcp.out.mem Hf.out.mem))
      have hpj2 : Hid (pw d f (j + 1) = p2) := Lib.hid (by rw [← hp2, ← hpj.out]; rfl)
      clear hp2
      rcases fm_cases p o with ⟨h, _⟩ | ⟨_, e1⟩ | ⟨_, e1, e2⟩ | ⟨_, e1, e2, e3⟩
      · exact absurd h hpo
      all_goals
        clear hpo
        go_wp2_with fail
        refine wp_region_calm 5 (Below (wr.heap.size) _) (by kernel_rfl) (by kernel_rfl) ((Below.refl _ _).drew) ?_
        simp only [List.take_succ_cons, List.take_zero, List.drop_succ_cons, List.drop_zero]
        repeat (first | (apply wpCalm_go; go_simp; (intro w' hw' hcc hff; go_simp; first | exact rfl | ((with_reducible refine (hD.out _).mono ?_); rintro ee w1 ⟨rfl, hb⟩; exact ⟨rfl, calm_call (by simp <;> omega) hw' hb⟩) | ((with_reducible refine (hP.out _).mono ?_); rintro ee w1 ⟨rfl, hb⟩; exact ⟨rfl, calm_call (by simp <;> omega) hw' hb⟩)); (intro K hK; go_simp; refine hK _ ?_; clear hK K)) | (apply wpCalm_skip; go_simp; (try (focus (simp [undef]; done))); (intro K hK; go_simp; refine hK _ ?_; clear hK K)))
        refine wpCalm_nil ?_
        intro w1 hw1
        have hcc := (calm_cells hw1).1
        have hff := (calm_cells hw1).2
        have hss := calm_size hw1
        have hsz := hw1.size
        (try simp at hsz)
        have hA2 : Blk w1 w.heap.size 29 #[.int .i64 f.a, .int .i64 f.b, .int .i64 f.c] := Blk.below (by (repeat (first | with_reducible assumption | (with_reducible apply Blk.new_at; (first | rfl | (simp; done))) | with_reducible apply Blk.store3 | with_reducible apply Blk.store4 | (with_reducible apply Blk.farp; (first | omega | (simp <;> omega))) | with_reducible apply Blk.allocp | with_reducible apply Blk.drew | with_reducible apply Blk.drewN))) hw1 lA
        have hP2 : Blk w1 P 29 #[.int .i64 p.a, .int .i64 p.b, .int .i64 p.c] := Blk.below (by (repeat (first | with_reducible assumption | (with_reducible apply Blk.new_at; (first | rfl | (simp; done))) | with_reducible apply Blk.store3 | with_reducible apply Blk.store4 | (with_reducible apply Blk.farp; (first | omega | (simp <;> omega))) | with_reducible apply Blk.allocp | with_reducible apply Blk.drew | with_reducible apply Blk.drewN))) hw1 lP
        go_wp2_with (first
          | (go_at_call 103; (with_reducible refine (hc.out _).mono ?_); rintro e v3 ⟨rfl, hB3⟩; have hZ3 := hB3.size; (try simp at hZ3); (try have zl3 : w.heap.size < v3.heap.size := by omega); (try have ze3 : w.heap.size ≤ v3.heap.size := by omega); (try have zn3 : ¬ w.heap.size = v3.heap.size := by omega); (try have zm3 : ¬ v3.heap.size = w.heap.size := by omega); have hA3 : Blk v3 (w.heap.size) 29 #[.int .i64 f.a, .int .i64 f.b, .int .i64 f.c] := Blk.call (by (repeat (first | with_reducible assumption | (with_reducible apply Blk.new_at; (first | rfl | (simp; done))) | with_reducible apply Blk.store3 | with_reducible apply Blk.store4 | (with_reducible apply Blk.farp; (first | omega | (simp <;> omega))) | with_reducible apply Blk.allocp | with_reducible apply Blk.drew | with_reducible apply Blk.drewN))) hB3; have cA3 := hA3.cell; have fA3 := hA3.frozen; have lA3 := hA3.lt; have mA3 := Nat.ne_of_gt lA3; have nA3 := Nat.ne_of_lt lA3; have hQ3 : Blk v3 (P) 29 #[.int .i64 p.a, .int .i64 p.b, .int .i64 p.c] := Blk.call (by (repeat (first | with_reducible assumption | (with_reducible apply Blk.new_at; (first | rfl | (simp; done))) | with_reducible apply Blk.store3 | with_reducible apply Blk.store4 | (with_reducible apply Blk.farp; (first | omega | (simp <;> omega))) | with_reducible apply Blk.allocp | with_reducible apply Blk.drew | with_reducible apply Blk.drewN))) hB3; have cQ3 := hQ3.cell; have fQ3 := hQ3.frozen; have lQ3 := hQ3.lt; have mQ3 := Nat.ne_of_gt lQ3; have nQ3 := Nat.ne_of_lt lQ3))
        go_roundw
        case rel => exact ⟨j + 1, p2, _, by go_num, rfl, by omega, hjn, cp2, hpj2, by (repeat (first | with_reducible assumption | (with_reducible apply Blk.new_at; (first | rfl | (simp; done))) | with_reducible apply Blk.store3 | with_reducible apply Blk.store4 | (with_reducible apply Blk.farp; (first | omega | (simp <;> omega))) | with_reducible apply Blk.allocp | with_reducible apply Blk.drew | with_reducible apply Blk.drewN)), by (repeat (first | with_reducible assumption | (with_reducible apply Blk.new_at; (first | rfl | (simp; done))) | with_reducible apply Blk.store3 | with_reducible apply Blk.store4 | (with_reducible apply Blk.farp; (first | omega | (simp <;> omega))) | with_reducible apply Blk.allocp | with_reducible apply Blk.drew | with_reducible apply Blk.drewN)), by omega, (by repeat (first | with_reducible exact Below.refl _ _ | with_reducible assumption | with_reducible apply Below.drew | with_reducible apply below_drewN | (with_reducible apply below_setp; (first | omega | (simp <;> omega))) | (with_reducible apply below_allocp; (first | omega | (simp <;> omega))) | (with_reducible refine below_viap (by assumption) ?_ ?_; (first | omega | (simp <;> omega)))))⟩
        case measure => simp [intOf]; omega
end
end Go.Proofs.YtohgccgbbipjjaaGreat
