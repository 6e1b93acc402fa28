/- The genus of a class: its values as a list; contracts: whether two lists of integers are the same. -/
import Derived.Test.YtononfokhdmofaaN12
import Derived.Test.YtononfokhdmofaaGG
namespace Go.Proofs.Ytononfokhdmofaa
open Go.RowKit

open Classical in
/-- The genus values of the reduced form f. -/
noncomputable def gnL (d : Int) (f : Fm) : List Int := if h : ∃ x y v, GP d f x y v then vals (-d) (h.choose_spec.choose_spec.choose) else []
theorem gn_ex {d : Int} {f : Fm} (D : Dsc d) (hf : f ∈ clsL d) : ∃ x y v, GP d f x y v ∧ vals (-d) v = gnL d f := by
  have h : ∃ x y v, GP d f x y v := GP.ex D hf
  refine ⟨_, _, _, h.choose_spec.choose_spec.choose_spec, ?_⟩
  unfold gnL
  rw [dif_pos h]
theorem gn_len {d : Int} {f : Fm} (D : Dsc d) (hf : f ∈ clsL d) : (gnL d f).length ≤ 10000000 := by
  obtain ⟨x, y, v, h, he⟩ := gn_ex D hf
  have := D.lo
  rw [← he]
  exact Nat.le_trans (vals_len _ _ (by omega)) (by decide)
theorem genusValues_gn (d : Int) (f0 f : Fm) (w : World) (cf : CF d f0 f) :
    Calls Try.prog 85 #[.agg #[.int .i64 f0.a, .int .i64 f0.b, .int .i64 f0.c]] w (RetI (gnL d f) w) := by
  obtain ⟨x, y, v, h, he⟩ := gn_ex cf.D cf.mem
  rw [← he]
  exact genusValues_any d f0 f x y v w cf h
theorem chOf_gn (d : Int) (f0 f : Fm) (w : World) (cf : CF d f0 f) :
    Calls Try.prog 82 #[.agg #[.int .i64 f0.a, .int .i64 f0.b, .int .i64 f0.c]] w (RetI (gnL d f) w) := by
  obtain ⟨x, y, v, h, he⟩ := gn_ex cf.D cf.mem
  rw [← he]
  exact chOf_any d f0 f x y v w cf h

theorem same_yes {X Y : List Int} (hl : X.length = Y.length) (h : ∀ j (h1 : j < X.length) (h2 : j < Y.length), X[j] = Y[j]) : decide (X = Y) = true :=
  decide_eq_true (List.ext_getElem hl h)
theorem same_no {X Y : List Int} {k : Nat} (h1 : k < X.length) (h2 : k < Y.length) (h : X[k] ≠ Y[k]) : decide (X = Y) = false :=
  decide_eq_false (fun e => h (by subst e; rfl))
theorem same_len {X Y : List Int} (h : ¬ X.length = Y.length) : decide (X = Y) = false := decide_eq_false (fun e => h (by rw [e]))
def SamSt (X Y : List Int) (n : Nat) (w : World) (vi : Value) (wr : World) : Prop :=
  ∃ k : Nat, vi = .int .i64 k ∧ k ≤ n ∧ Hid (∀ j (h1 : j < X.length) (h2 : j < Y.length), j < k → X[j] = Y[j]) ∧ Below w.heap.size w wr

set_option maxRecDepth 100000 in
set_option maxHeartbeats 1600000 in
theorem sameValues_any (v u : Value) (B B2 : Nat) (X Y : List Int) (w : World) (hl1 : X.length ≤ 10000000) (_hl2 : Y.length ≤ 10000000) (h1 : w.ownsRow B 3 1 v X.length (cellsI X)) (h2 : w.ownsRow B2 3 1 u Y.length (cellsI Y)) :
    Calls Try.prog 126 #[v, u] w fun e w' => e = .returned (.bool (decide (X = Y))) ∧ Below w.heap.size w w' := by
  obtain ⟨b1, c1, rfl⟩ := own_shape h1
  obtain ⟨b2, c2, rfl⟩ := own_shape h2
  by_cases he : X.length = Y.length
  · obtain ⟨n, hX⟩ : ∃ n, X.length = n := ⟨_, rfl⟩
    have hY : Y.length = n := by rw [← he]; exact hX
    rw [hX] at h1 hl1 ⊢
    rw [hY] at h2 ⊢
    have H1 := Lib.hid h1
    have H2 := Lib.hid h2
    have HX := Lib.hid hX
    have HY := Lib.hid hY
    clear h1 h2 he hX hY
    go_enter Try.func126, Try.ntmps126
    go_wp2
    go_loopw [14] (fun i wr => SamSt X Y n w i wr) (fun i _ => n - (intOf i).toNat)
    case atStart => exact ⟨0, rfl, Nat.zero_le _, Lib.hid (fun j _ _ hj => absurd hj (Nat.not_lt_zero _)), (by repeat (first | with_reducible exact Below.refl _ _ | with_reducible assumption | with_reducible apply Below.drew | with_reducible apply below_drewN | (with_reducible apply below_setp; (first | omega | (simp <;> omega))) | (with_reducible apply below_allocp; (first | omega | (simp <;> omega))) | (with_reducible refine below_viap (by assumption) ?_ ?_; (first | omega | (simp <;> omega)))))⟩
    case round =>
      obtain ⟨k, rfl, hk, hno, hbel⟩ := hrel
      by_cases hlt : k < n
      · have hlt1 : k < X.length := by rw [HX.out]; exact hlt
        have hlt2 : k < Y.length := by rw [HY.out]; exact hlt
        obtain ⟨g1, rfl, e1, d1⟩ := own_elemI (n := n) (by rw [HX.out]; exact H1.out) hlt1
        obtain ⟨g2, rfl, e2, d2⟩ := own_elemI (n := n) (by rw [HY.out]; exact H2.out) hlt2
        have d4 := (hbel.cell (p := ⟨g1, k, none⟩) e1).trans d1
        have e4 := (hbel.cell (p := ⟨g2, k, none⟩) e2).trans d2
        have hfal := Lib.hid (fun (e : X[k] ≠ Y[k]) => same_no hlt1 hlt2 e)
        have hnx := Lib.hid (fun (e : X[k] = Y[k]) => (show ∀ j (h1 : j < X.length) (h2 : j < Y.length), j < k + 1 → X[j] = Y[j] from fun j h1 h2 hj => if he : j = k then (by subst he; exact e) else hno.out j h1 h2 (by omega)))
        clear d1 d2
        generalize X[k] = r at d4 hfal hnx
        generalize Y[k] = s at e4 hfal hnx
        clear hlt1 hlt2
        have hz := hbel.size
        have hg3 : g1 < wr.heap.size := by omega
        have hg4 : g2 < wr.heap.size := by omega
        by_cases hrs : r = s
        · have Hn := Lib.hid (hnx.out hrs)
          subst hrs
          clear hfal hnx
          go_wp2
          go_roundw
          case rel => exact ⟨k + 1, rfl, hlt, Hn, (by repeat (first | with_reducible exact Below.refl _ _ | with_reducible assumption | with_reducible apply Below.drew | with_reducible apply below_drewN | (with_reducible apply below_setp; (first | omega | (simp <;> omega))) | (with_reducible apply below_allocp; (first | omega | (simp <;> omega))) | (with_reducible refine below_viap (by assumption) ?_ ?_; (first | omega | (simp <;> omega)))))⟩
          case measure => simp [intOf]; omega
        · have Hf := Lib.hid (hfal.out hrs)
          have hbe : (r == s) = false := by rw [beq_eq_false_iff_ne]; exact hrs
          clear hfal hnx
          go_wp2
          go_ret
          exact ⟨ret_bool Hf.out.symm, hbel⟩
      · have Hy := Lib.hid (same_yes (HX.out.trans HY.out.symm) (fun j h1 h2 => hno.out j h1 h2 (by have := HX.out; omega)))
        go_wp2
        go_ret
        exact ⟨ret_bool Hy.out.symm, hbel⟩
  · have Hf := Lib.hid (same_len he)
    have hle : ((X.length : Int) == (Y.length : Int)) = false := by rw [beq_eq_false_iff_ne]; omega
    clear h1 h2
    go_enter Try.func126, Try.ntmps126
    go_wp2
    go_ret
    exact ⟨ret_bool Hf.out.symm, (by repeat (first | with_reducible exact Below.refl _ _ | with_reducible assumption | with_reducible apply Below.drew | with_reducible apply below_drewN | (with_reducible apply below_setp; (first | omega | (simp <;> omega))) | (with_reducible apply below_allocp; (first | omega | (simp <;> omega))) | (with_reducible refine below_viap (by assumption) ?_ ?_; (first | omega | (simp <;> omega)))))⟩
set_option maxRecDepth 100000 in
set_option maxHeartbeats 1600000 in
theorem l1Same_any (v u : Value) (B B2 : Nat) (X Y : List Int) (w : World) (hl1 : X.length ≤ 10000000) (_hl2 : Y.length ≤ 10000000) (h1 : w.ownsRow B 3 1 v X.length (cellsI X)) (h2 : w.ownsRow B2 3 1 u Y.length (cellsI Y)) :
    Calls Try.prog 122 #[v, u] w fun e w' => e = .returned (.bool (decide (X = Y))) ∧ Below w.heap.size w w' := by
  obtain ⟨b1, c1, rfl⟩ := own_shape h1
  obtain ⟨b2, c2, rfl⟩ := own_shape h2
  by_cases he : X.length = Y.length
  · obtain ⟨n, hX⟩ : ∃ n, X.length = n := ⟨_, rfl⟩
    have hY : Y.length = n := by rw [← he]; exact hX
    rw [hX] at h1 hl1 ⊢
    rw [hY] at h2 ⊢
    have H1 := Lib.hid h1
    have H2 := Lib.hid h2
    have HX := Lib.hid hX
    have HY := Lib.hid hY
    clear h1 h2 he hX hY
    go_enter Try.func122, Try.ntmps122
    go_wp2
    go_loopw [13] (fun i wr => SamSt X Y n w i wr) (fun i _ => n - (intOf i).toNat)
    case atStart => exact ⟨0, rfl, Nat.zero_le _, Lib.hid (fun j _ _ hj => absurd hj (Nat.not_lt_zero _)), (by repeat (first | with_reducible exact Below.refl _ _ | with_reducible assumption | with_reducible apply Below.drew | with_reducible apply below_drewN | (with_reducible apply below_setp; (first | omega | (simp <;> omega))) | (with_reducible apply below_allocp; (first | omega | (simp <;> omega))) | (with_reducible refine below_viap (by assumption) ?_ ?_; (first | omega | (simp <;> omega)))))⟩
    case round =>
      obtain ⟨k, rfl, hk, hno, hbel⟩ := hrel
      by_cases hlt : k < n
      · have hlt1 : k < X.length := by rw [HX.out]; exact hlt
        have hlt2 : k < Y.length := by rw [HY.out]; exact hlt
        obtain ⟨g1, rfl, e1, d1⟩ := own_elemI (n := n) (by rw [HX.out]; exact H1.out) hlt1
        obtain ⟨g2, rfl, e2, d2⟩ := own_elemI (n := n) (by rw [HY.out]; exact H2.out) hlt2
        have d4 := (hbel.cell (p := ⟨g1, k, none⟩) e1).trans d1
        have e4 := (hbel.cell (p := ⟨g2, k, none⟩) e2).trans d2
        have hfal := Lib.hid (fun (e : X[k] ≠ Y[k]) => same_no hlt1 hlt2 e)
        have hnx := Lib.hid (fun (e : X[k] = Y[k]) => (show ∀ j (h1 : j < X.length) (h2 : j < Y.length), j < k + 1 → X[j] = Y[j] from fun j h1 h2 hj => if he : j = k then (by subst he; exact e) else hno.out j h1 h2 (by omega)))
        clear d1 d2
        generalize X[k] = r at d4 hfal hnx
        generalize Y[k] = s at e4 hfal hnx
        clear hlt1 hlt2
        have hz := hbel.size
        have hg3 : g1 < wr.heap.size := by omega
        have hg4 : g2 < wr.heap.size := by omega
        by_cases hrs : r = s
        · have Hn := Lib.hid (hnx.out hrs)
          subst hrs
          clear hfal hnx
          go_wp2
          refine wp_region_calm 9 (Below (wr.heap.size) _) (by kernel_rfl) (by kernel_rfl) ((Below.refl _ _).drew) ?_
          simp only [List.take_succ_cons, List.take_zero, List.drop_succ_cons, List.drop_zero]
          repeat (first | (apply wpCalm_go; go_simp; (intro w' hw' hcc hff; go_simp; first | exact rfl | fail); (intro K hK; go_simp; refine hK _ ?_; clear hK K)) | (apply wpCalm_skip; go_simp; (intro K hK; go_simp; refine hK _ ?_; clear hK K)))
          refine wpCalm_nil ?_
          intro w1 hw1
          have hcc := (calm_cells hw1).1
          have hff := (calm_cells hw1).2
          have hss := calm_size hw1
          have hsz := hw1.size
          (try simp at hsz)
          go_wp2
          exact ⟨⟨k + 1, rfl, hlt, Hn, below_via hbel hw1 hz⟩, by simp [intOf]; omega⟩
        · have Hf := Lib.hid (hfal.out hrs)
          have hbe : (r == s) = false := by rw [beq_eq_false_iff_ne]; exact hrs
          clear hfal hnx
          go_wp2
          refine wp_region_calm 9 (Below (wr.heap.size) _) (by kernel_rfl) (by kernel_rfl) ((Below.refl _ _).drew) ?_
          simp only [List.take_succ_cons, List.take_zero, List.drop_succ_cons, List.drop_zero]
          repeat (first | (apply wpCalm_go; go_simp; (intro w' hw' hcc hff; go_simp; first | exact rfl | fail); (intro K hK; go_simp; refine hK _ ?_; clear hK K)) | (apply wpCalm_skip; go_simp; (intro K hK; go_simp; refine hK _ ?_; clear hK K)))
          refine wpCalm_nil ?_
          intro w1 hw1
          have hcc := (calm_cells hw1).1
          have hff := (calm_cells hw1).2
          have hss := calm_size hw1
          have hsz := hw1.size
          (try simp at hsz)
          go_wp2
          go_ret
          exact ⟨ret_bool Hf.out.symm, below_via hbel hw1 hz⟩
      · have Hy := Lib.hid (same_yes (HX.out.trans HY.out.symm) (fun j h1 h2 => hno.out j h1 h2 (by have := HX.out; omega)))
        go_wp2
        go_ret
        exact ⟨ret_bool Hy.out.symm, hbel⟩
  · have Hf := Lib.hid (same_len he)
    have hle : ((X.length : Int) == (Y.length : Int)) = false := by rw [beq_eq_false_iff_ne]; omega
    clear h1 h2
    go_enter Try.func122, Try.ntmps122
    go_wp2
    go_ret
    exact ⟨ret_bool Hf.out.symm, (by repeat (first | with_reducible exact Below.refl _ _ | with_reducible assumption | with_reducible apply Below.drew | with_reducible apply below_drewN | (with_reducible apply below_setp; (first | omega | (simp <;> omega))) | (with_reducible apply below_allocp; (first | omega | (simp <;> omega))) | (with_reducible refine below_viap (by assumption) ?_ ?_; (first | omega | (simp <;> omega)))))⟩
end Go.Proofs.Ytononfokhdmofaa
