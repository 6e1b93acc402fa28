/- Contracts: the primitive forms that begin with a number; the count of the primitive points. -/
import Derived.Test.YteicampphegolaaIG
import Derived.Test.YteicampphegolaaK7
import Derived.Test.YteicampphegolaaGG
namespace Go.Proofs.Yteicampphegolaa
open Go.RowKit

theorem isNum_isd {d : Int} (h1 : -2000 ≤ d) (h2 : d ≤ -3) : isNum d = true := by
  unfold isNum; simp; omega
theorem areNumH (n : Int) (e : TypeId) (w : World) (hy : isNum n = true) :
    Calls Try.prog 95 #[.slice (some ⟨w.heap.size, 0, none⟩) 1 1] (w.alloc (.cells #[.int .i64 n] e)) fun e1 w' => e1 = .returned (.bool true) ∧ w.alloc (.cells #[.int .i64 n] e) = w' := by
  have hc : ∀ j, j < 1 → (w.alloc (.cells #[.int .i64 n] e)).cell? ⟨w.heap.size, j, none⟩ = some (.int .i64 ([n].getD j 0)) := by
    intro j hj
    match j, hj with
    | 0, _ => simp [go_sem]
  have k := areNumbers_any w.heap.size 1 1 [n] (w.alloc (.cells #[.int .i64 n] e)) rfl (by omega) hc
  rw [show [n].all isNum = true by simp [hy]] at k
  exact k
theorem ldL_small {d n : Int} (d1 : -2000 ≤ d) (d2 : d ≤ -3) (h1 : 1 ≤ n) (h2 : n ≤ 2500) : Small (ldL d n) ∧ (ldL d n).length ≤ 5000 := by
  constructor
  · intro f hf
    unfold ldL at hf
    obtain ⟨x, hx, rfl⟩ := List.mem_map.1 hf
    obtain ⟨x1, x2, -⟩ := rdL_mem.1 hx
    have hxx : 0 ≤ x * x ∧ x * x ≤ 5000 * 5000 := ⟨Int.mul_nonneg x1 x1, Int.mul_le_mul (by omega) (by omega) x1 (by omega)⟩
    have hq1 : 0 ≤ (x * x - d) / (4 * n) := Int.ediv_nonneg (by omega) (by omega)
    have hq2 : (x * x - d) / (4 * n) ≤ x * x - d := Int.ediv_le_self _ (by omega)
    unfold ldF
    exact ⟨⟨by simp only; omega, by simp only; omega⟩, ⟨by simp only; omega, by simp only; omega⟩, ⟨by simp only; omega, by simp only; omega⟩⟩
  · unfold ldL
    rw [List.length_map]
    have := rdL_len d n (2 * n).toNat
    omega
theorem ldL_nd (d n : Int) : (ldL d n).Nodup := by
  unfold ldL
  exact List.Pairwise.map _ (fun a b h e => h (congrArg Fm.b e)) (rdL_nd d n _)
theorem ldL_mem {d n : Int} (hn : 1 ≤ n) (g : Fm) : g ∈ (ldL d n).filter primB ↔ IsLd d n g := by
  rw [List.mem_filter]
  unfold ldL IsLd primB
  rw [List.mem_map, decide_eq_true_eq]
  constructor
  · rintro ⟨⟨x, hx, rfl⟩, hp⟩
    obtain ⟨x1, x2, x3⟩ := rdL_mem.1 hx
    refine ⟨rfl, ⟨x1, by show x < 2 * n; omega⟩, ?_, hp⟩
    have := Int.emod_add_mul_ediv (x * x - d) (4 * n)
    rw [x3] at this
    unfold disc ldF
    simp only
    omega
  · rintro ⟨ha, ⟨b1, b2⟩, hd, hp⟩
    refine ⟨⟨g.b, ?_, ?_⟩, hp⟩
    · rw [rdL_mem]
      refine ⟨b1, by omega, ?_⟩
      rw [← hd, ← ha]
      unfold disc
      rw [show g.b * g.b - (g.b * g.b - 4 * g.a * g.c) = 4 * g.a * g.c by omega]
      exact Int.mul_emod_right _ _
    · obtain ⟨a, b, c⟩ := g
      simp only at *
      subst ha
      unfold ldF disc at *
      simp only at *
      rw [← hd, show b * b - (b * b - 4 * a * c) = 4 * a * c by omega, Int.mul_ediv_cancel_left _ (by omega)]

set_option maxRecDepth 100000 in
set_option maxHeartbeats 1600000 in
theorem FormsLd_any (d n : Int) (w : World) (d1 : -2000 ≤ d) (d2 : d ≤ -3) (h1 : 1 ≤ n) (h2 : n ≤ 2500) :
    Calls Try.prog 173 #[.int .i64 d, .int .i64 n] w (RetFb (ldL d n) true w) := by
  have hN := isNum_isd d1 d2
  have hL := Lib.hid (fun w => leading_any d n w d1 d2 h1 h2)
  generalize ldL d n = L at *
  have n1 : ¬ n < 1 := by omega
  have n2 : ¬ 2500 < n := by omega
  go_enter Try.func173, Try.ntmps173
  go_wp2_with (first
    | (go_at_call 95; (with_reducible refine (areNumH d _ _ hN).mono ?_); rintro e v ⟨rfl, rfl⟩)
    | (go_at_call 254; refine (hL.out _).mono ?_; rintro e v5 ⟨vl, rfl, howl, hB5⟩; have hZ5 := hB5.size; (try simp at hZ5)))
  go_ret2
  exact ⟨_, rfl, own_base (by simp) howl, (by repeat (first | with_reducible exact Below.refl _ _ | with_reducible assumption | with_reducible apply Below.drew | with_reducible apply below_drewN | (with_reducible apply below_setp; (first | omega | (simp <;> omega))) | (with_reducible apply below_allocp; (first | omega | (simp <;> omega))) | (with_reducible refine below_viap (by assumption) ?_ ?_; (first | omega | (simp <;> omega)))))⟩

set_option maxRecDepth 100000 in
set_option maxHeartbeats 1600000 in
theorem PrimLd_any (d n : Int) (w : World) (d1 : -2000 ≤ d) (d2 : d ≤ -3) (h1 : 1 ≤ n) (h2 : n ≤ 2500) :
    Calls Try.prog 73 #[.int .i64 d, .int .i64 n] w (RetFb ((ldL d n).filter primB) true w) := by
  have hL := Lib.hid (fun w => FormsLd_any d n w d1 d2 h1 h2)
  obtain ⟨hS, hl⟩ := ldL_small d1 d2 h1 h2
  have Hs := Lib.hid hS
  generalize ldL d n = L at *
  clear hS
  go_enter Try.func73, Try.ntmps73
  go_wp2_with (first
    | (go_at_call 173; refine (hL.out _).mono ?_; rintro e v5 ⟨vl, rfl, howl, hB5⟩; have hZ5 := hB5.size; (try simp at hZ5))
    | (go_at_call 174; refine (primitiveOf_any vl _ L v5 Hs.out (by omega) howl).mono ?_; rintro e w2 ⟨v2, rfl, hown2, hb2⟩))
  go_ret2
  exact ⟨_, rfl, own_base (by omega) hown2, (by repeat (first | with_reducible exact Below.refl _ _ | with_reducible assumption | with_reducible apply Below.drew | with_reducible apply below_drewN | (with_reducible apply below_setp; (first | omega | (simp <;> omega))) | (with_reducible apply below_allocp; (first | omega | (simp <;> omega))) | (with_reducible refine below_viap (by assumption) ?_ ?_; (first | omega | (simp <;> omega)))))⟩
/-- The count over the forms that represent n. -/
theorem count_rep {d n : Int} (D : Dsc d) (h1 : 1 ≤ n) (h2 : n ≤ 2500) {R : List Fm} (hR : R = (clsL d).filter (repP d n)) :
    ((R.map fun f => ((ptsL d n f).filter prmP).length).sum : Nat) = wD d * ((ldL d n).filter primB).length := by
  rw [← count_prim D ⟨h1, by omega⟩ ((ldL_nd d n).filter _) (ldL_mem h1), hR]
  have hall : ∀ f ∈ clsL d, repP d n f = false → (prL d n f).length = 0 := by
    intro f hf h
    apply Classical.byContradiction
    intro hne
    obtain ⟨p, hp⟩ := List.exists_mem_of_length_pos (by omega : 0 < (prL d n f).length)
    have := (repP_iff D hf h1).2 ⟨p.1, p.2, (prL_mem D hf h1 p).1 hp⟩
    rw [h] at this
    exact absurd this (by decide)
  revert hall
  generalize clsL d = C
  intro hall
  induction C with
  | nil => rfl
  | cons f C ih =>
    have ih := ih (fun g hg => hall g (by simp [hg]))
    rw [List.map_cons, List.sum_cons, ← ih]
    cases h : repP d n f with
    | true =>
      rw [List.filter_cons_of_pos h, List.map_cons, List.sum_cons]
      rfl
    | false =>
      rw [List.filter_cons_of_neg (by rw [h]; decide), hall f (by simp) h, Nat.zero_add]
end Go.Proofs.Yteicampphegolaa
