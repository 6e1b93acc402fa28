/- Contracts of SplitFromForm, of the program and of the reference. -/
import Derived.Test.YtifkmjmhhklkjaaF05
import Derived.Test.YtifkmjmhhklkjaaM17
namespace Go.Proofs.Ytifkmjmhhklkjaa
open Go.RowKit

/-- What both return. -/
def SpF (a b c r s : Int) (ok : Bool) : Prop := ∃ (g : Fm) (n : Int), AmbP a b c g n ok ∧ (ok = true → (Near g.a ∧ Near g.b ∧ Near g.c) ∧ isAmb g.a g.b g.c = true) ∧ r = (if ok = true then splR g.a g.b g.c else 0) ∧ s = (if ok = true then splS g.a g.b g.c else 0)
theorem spF_ex (a b c : Int) : ∃ r s ok, SpF a b c r s ok := by
  obtain ⟨g, n, ok, h⟩ := ambP_ex a b c
  refine ⟨_, _, ok, g, n, h, ?_, rfl, rfl⟩
  rintro rfl
  rcases h with ⟨_, _, _, h⟩ | ⟨_, _, _, _, h⟩ | ⟨hc, m, ho, hr, _, _⟩
  · cases h
  · cases h
  · have cf := CF.of_cls hc
    obtain ⟨hN, _⟩ := cf.D.ordm cf.mem
    rw [ho] at hN
    have hm : g ∈ clsL (disc ⟨a, b, c⟩) := hr ▸ cf.D.pwm cf.mem m
    have hd := cls_def0 cf.D hm
    refine ⟨def_near hd, ?_⟩
    have := cf.D.half_amb cf.mem hd hN hr
    simp only [isAmb, Bool.or_eq_true, decide_eq_true_eq]
    exact this

set_option maxHeartbeats 800000 in
theorem implSpF_any (a b c r s : Int) (ok : Bool) (w : World) (h : SpF a b c r s ok) :
    Calls Try.prog 30 #[.agg #[.int .i64 a, .int .i64 b, .int .i64 c]] w fun e w' => e = .returned (.tuple #[.agg #[.int .i64 r, .int .i64 s], .bool ok]) ∧ Below w.heap.size w w' := by
  obtain ⟨g, n, hA, hg, hr, hs⟩ := h
  cases ok
  · simp only [Bool.false_eq_true, if_false] at hr hs
    subst hr; subst hs
    go_enter Try.func30, Try.ntmps30
    go_wp2_with (go_at_call 28; (with_reducible refine (implAmbP_any a b c g n _ _ hA).mono ?_); rintro e v1 ⟨rfl, hB1⟩; have hZ1 := hB1.size; (try simp at hZ1); (try have zl1 : w.heap.size < v1.heap.size := by omega); (try have ze1 : w.heap.size ≤ v1.heap.size := by omega); (try have zn1 : ¬ w.heap.size = v1.heap.size := by omega); (try have zm1 : ¬ v1.heap.size = w.heap.size := by omega); have hC1_0 := fun o => (calm_cells hB1).1 (w.heap.size) o (by first | omega | (simp <;> omega)); have hF1_0 := fun o => (calm_cells hB1).2 (w.heap.size) o (by first | omega | (simp <;> omega)); (try have hl1_0 : w.heap.size < v1.heap.size := by omega); (try have hm1_0 : ¬ w.heap.size = v1.heap.size := by omega); (try have hn1_0 : ¬ v1.heap.size = w.heap.size := by omega); have hC1_1 := fun o => (calm_cells hB1).1 (w.heap.size + 1) o (by first | omega | (simp <;> omega)); have hF1_1 := fun o => (calm_cells hB1).2 (w.heap.size + 1) o (by first | omega | (simp <;> omega)); (try have hl1_1 : w.heap.size + 1 < v1.heap.size := by omega); (try have hm1_1 : ¬ w.heap.size + 1 = v1.heap.size := by omega); (try have hn1_1 : ¬ v1.heap.size = w.heap.size + 1 := by omega))
    exact bodyPost_ret (v := .tuple #[.agg #[.int .i64 0, .int .i64 0], .bool false]) (by simp [results, Try.results30, go_sem, *]) rfl ⟨rfl, (by repeat (first | with_reducible exact Below.refl _ _ | with_reducible assumption | with_reducible apply Below.drew | with_reducible apply below_drewN | (with_reducible apply below_setp; (first | omega | (simp <;> omega))) | (with_reducible apply below_allocp; (first | omega | (simp <;> omega))) | (with_reducible refine below_viap (by assumption) ?_ ?_; (first | omega | (simp <;> omega)))))⟩
  · obtain ⟨⟨n1, n2, n3⟩, ha⟩ := hg rfl
    simp only [if_true] at hr hs
    have hS := Lib.hid (fun w => split_any g.a g.b g.c w n1 n2 n3)
    rw [← hr, ← hs] at hS
    clear hg hr hs ha n1 n2 n3
    go_enter Try.func30, Try.ntmps30
    go_wp2_with (first | (go_at_call 28; (with_reducible refine (implAmbP_any a b c g n _ _ hA).mono ?_); rintro e v1 ⟨rfl, hB1⟩; have hZ1 := hB1.size; (try simp at hZ1); (try have zl1 : w.heap.size < v1.heap.size := by omega); (try have ze1 : w.heap.size ≤ v1.heap.size := by omega); (try have zn1 : ¬ w.heap.size = v1.heap.size := by omega); (try have zm1 : ¬ v1.heap.size = w.heap.size := by omega); have hP1 : Blk v1 (w.heap.size + 1) 30 #[.int .i64 0, .int .i64 0] := Blk.call (by (repeat (first | with_reducible assumption | (with_reducible apply Blk.new_at; (first | rfl | (simp; done))) | with_reducible apply Blk.store3 | with_reducible apply Blk.store4 | (with_reducible apply Blk.farp; (first | omega | (simp <;> omega))) | with_reducible apply Blk.allocp | with_reducible apply Blk.drew | with_reducible apply Blk.drewN))) hB1; have cP1 := hP1.cell; have fP1 := hP1.frozen; have lP1 := hP1.lt; have mP1 := Nat.ne_of_gt lP1; have nP1 := Nat.ne_of_lt lP1) | (go_at_call 62; (with_reducible refine (hS.out _).mono ?_); rintro e v2 ⟨rfl, hB2⟩; have hZ2 := hB2.size; (try simp at hZ2); (try have zl2 : w.heap.size < v2.heap.size := by omega); (try have ze2 : w.heap.size ≤ v2.heap.size := by omega); (try have zn2 : ¬ w.heap.size = v2.heap.size := by omega); (try have zm2 : ¬ v2.heap.size = w.heap.size := by omega); have hP2 : Blk v2 (w.heap.size + 1) 30 #[.int .i64 0, .int .i64 0] := Blk.call (by (repeat (first | with_reducible assumption | (with_reducible apply Blk.new_at; (first | rfl | (simp; done))) | with_reducible apply Blk.store3 | with_reducible apply Blk.store4 | (with_reducible apply Blk.farp; (first | omega | (simp <;> omega))) | with_reducible apply Blk.allocp | with_reducible apply Blk.drew | with_reducible apply Blk.drewN))) hB2; have cP2 := hP2.cell; have fP2 := hP2.frozen; have lP2 := hP2.lt; have mP2 := Nat.ne_of_gt lP2; have nP2 := Nat.ne_of_lt lP2))
    exact bodyPost_ret (v := .tuple #[.agg #[.int .i64 r, .int .i64 s], .bool true]) (by simp [results, Try.results30, go_sem, *]) rfl ⟨rfl, (by repeat (first | with_reducible exact Below.refl _ _ | with_reducible assumption | with_reducible apply Below.drew | with_reducible apply below_drewN | (with_reducible apply below_setp; (first | omega | (simp <;> omega))) | (with_reducible apply below_allocp; (first | omega | (simp <;> omega))) | (with_reducible refine below_viap (by assumption) ?_ ?_; (first | omega | (simp <;> omega)))))⟩

set_option maxHeartbeats 800000 in
theorem specSpF_any (a b c r s : Int) (ok : Bool) (w : World) (h : SpF a b c r s ok) :
    Calls Try.prog 29 #[.agg #[.int .i64 a, .int .i64 b, .int .i64 c]] w fun e w' => e = .returned (.tuple #[.agg #[.int .i64 r, .int .i64 s], .bool ok]) ∧ Below w.heap.size w w' := by
  obtain ⟨g, n, hA, hg, hr, hs⟩ := h
  cases ok
  · simp only [Bool.false_eq_true, if_false] at hr hs
    subst hr; subst hs
    go_enter Try.func29, Try.ntmps29
    go_wp2_with (go_at_call 27; (with_reducible refine (specAmbP_any a b c g n _ _ hA).mono ?_); rintro e v1 ⟨rfl, hB1⟩; have hZ1 := hB1.size; (try simp at hZ1); (try have zl1 : w.heap.size < v1.heap.size := by omega); (try have ze1 : w.heap.size ≤ v1.heap.size := by omega); (try have zn1 : ¬ w.heap.size = v1.heap.size := by omega); (try have zm1 : ¬ v1.heap.size = w.heap.size := by omega); have hC1_0 := fun o => (calm_cells hB1).1 (w.heap.size) o (by first | omega | (simp <;> omega)); have hF1_0 := fun o => (calm_cells hB1).2 (w.heap.size) o (by first | omega | (simp <;> omega)); (try have hl1_0 : w.heap.size < v1.heap.size := by omega); (try have hm1_0 : ¬ w.heap.size = v1.heap.size := by omega); (try have hn1_0 : ¬ v1.heap.size = w.heap.size := by omega); have hC1_1 := fun o => (calm_cells hB1).1 (w.heap.size + 1) o (by first | omega | (simp <;> omega)); have hF1_1 := fun o => (calm_cells hB1).2 (w.heap.size + 1) o (by first | omega | (simp <;> omega)); (try have hl1_1 : w.heap.size + 1 < v1.heap.size := by omega); (try have hm1_1 : ¬ w.heap.size + 1 = v1.heap.size := by omega); (try have hn1_1 : ¬ v1.heap.size = w.heap.size + 1 := by omega))
    exact bodyPost_ret (v := .tuple #[.agg #[.int .i64 0, .int .i64 0], .bool false]) (by simp [results, Try.results29, go_sem, *]) rfl ⟨rfl, (by repeat (first | with_reducible exact Below.refl _ _ | with_reducible assumption | with_reducible apply Below.drew | with_reducible apply below_drewN | (with_reducible apply below_setp; (first | omega | (simp <;> omega))) | (with_reducible apply below_allocp; (first | omega | (simp <;> omega))) | (with_reducible refine below_viap (by assumption) ?_ ?_; (first | omega | (simp <;> omega)))))⟩
  · obtain ⟨⟨n1, n2, n3⟩, ha⟩ := hg rfl
    simp only [if_true] at hr hs
    have hS := fun w => amSplit_any g.a g.b g.c w n1 n2 n3
    rw [ha] at hS
    simp only [if_true] at hS
    rw [← hr, ← hs] at hS
    have HS := Lib.hid hS
    clear hg hr hs ha n1 n2 n3 hS
    go_enter Try.func29, Try.ntmps29
    go_wp2_with (first | (go_at_call 27; (with_reducible refine (specAmbP_any a b c g n _ _ hA).mono ?_); rintro e v1 ⟨rfl, hB1⟩; have hZ1 := hB1.size; (try simp at hZ1); (try have zl1 : w.heap.size < v1.heap.size := by omega); (try have ze1 : w.heap.size ≤ v1.heap.size := by omega); (try have zn1 : ¬ w.heap.size = v1.heap.size := by omega); (try have zm1 : ¬ v1.heap.size = w.heap.size := by omega); have hP1 : Blk v1 (w.heap.size + 1) 30 #[.int .i64 0, .int .i64 0] := Blk.call (by (repeat (first | with_reducible assumption | (with_reducible apply Blk.new_at; (first | rfl | (simp; done))) | with_reducible apply Blk.store3 | with_reducible apply Blk.store4 | (with_reducible apply Blk.farp; (first | omega | (simp <;> omega))) | with_reducible apply Blk.allocp | with_reducible apply Blk.drew | with_reducible apply Blk.drewN))) hB1; have cP1 := hP1.cell; have fP1 := hP1.frozen; have lP1 := hP1.lt; have mP1 := Nat.ne_of_gt lP1; have nP1 := Nat.ne_of_lt lP1) | (go_at_call 59; (with_reducible refine (HS.out _).mono ?_); rintro e v2 ⟨rfl, hB2⟩; have hZ2 := hB2.size; (try simp at hZ2); (try have zl2 : w.heap.size < v2.heap.size := by omega); (try have ze2 : w.heap.size ≤ v2.heap.size := by omega); (try have zn2 : ¬ w.heap.size = v2.heap.size := by omega); (try have zm2 : ¬ v2.heap.size = w.heap.size := by omega); have hP2 : Blk v2 (w.heap.size + 1) 30 #[.int .i64 0, .int .i64 0] := Blk.call (by (repeat (first | with_reducible assumption | (with_reducible apply Blk.new_at; (first | rfl | (simp; done))) | with_reducible apply Blk.store3 | with_reducible apply Blk.store4 | (with_reducible apply Blk.farp; (first | omega | (simp <;> omega))) | with_reducible apply Blk.allocp | with_reducible apply Blk.drew | with_reducible apply Blk.drewN))) hB2; have cP2 := hP2.cell; have fP2 := hP2.frozen; have lP2 := hP2.lt; have mP2 := Nat.ne_of_gt lP2; have nP2 := Nat.ne_of_lt lP2))
    exact bodyPost_ret (v := .tuple #[.agg #[.int .i64 r, .int .i64 s], .bool true]) (by simp [results, Try.results29, go_sem, *]) rfl ⟨rfl, (by repeat (first | with_reducible exact Below.refl _ _ | with_reducible assumption | with_reducible apply Below.drew | with_reducible apply below_drewN | (with_reducible apply below_setp; (first | omega | (simp <;> omega))) | (with_reducible apply below_allocp; (first | omega | (simp <;> omega))) | (with_reducible refine below_viap (by assumption) ?_ ?_; (first | omega | (simp <;> omega)))))⟩
end Go.Proofs.Ytifkmjmhhklkjaa
