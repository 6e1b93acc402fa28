/- For every form, the program's IsSquareClass returns what the reference's returns (the law FnExactIsSquareClass returns true and leaves its argument alone). Conditions: none. -/
import Derived.Test.YtononfokhdmofaaKC
import Derived.Test.YtononfokhdmofaaW2
namespace Go.Proofs.Ytononfokhdmofaa
open Go.RowKit Go.ChangeShapes Go.WideShapes Go.ChangeAt Go.Joins

set_option maxHeartbeats 800000 in
theorem walk_FnExactIsSquareClass (a b c : Int) (w : World) :
    Calls Try.prog 3 #[.agg #[.int .i64 a, .int .i64 b, .int .i64 c]] w fun e w' => e = .returned (.bool true) ∧ Below w.heap.size w w' := by
  obtain ⟨y, ok, hf⟩ := sqB_ex a b c
  have HS := Lib.hid (fun w => specIsSqB_any a b c y ok w hf)
  have HI := Lib.hid (fun w => implIsSqB_any a b c y ok w hf)
  clear hf
  go_enter Try.func3, Try.ntmps3
  cases ok <;> cases y
  all_goals
    go_wp2_with fail
    refine (toForm_any a b c _).mono ?_
    rintro e v1 ⟨rfl, hB1⟩
    have hZ1 := hB1.size
    (try simp at hZ1)
    (try have zl1 : w.heap.size < v1.heap.size := by omega)
    (try have ze1 : w.heap.size ≤ v1.heap.size := by omega)
    (try have zn1 : ¬ w.heap.size = v1.heap.size := by omega)
    (try have zm1 : ¬ v1.heap.size = w.heap.size := by omega)
    have hC1_0 := fun o => (calm_cells hB1).1 (w.heap.size) o (by first | omega | (simp <;> omega))
    have hF1_0 := fun o => (calm_cells hB1).2 (w.heap.size) o (by first | omega | (simp <;> omega))
    (try have hl1_0 : w.heap.size < v1.heap.size := by omega)
    (try have hm1_0 : ¬ w.heap.size = v1.heap.size := by omega)
    (try have hn1_0 : ¬ v1.heap.size = w.heap.size := by omega)
    go_wp2_with fail
    refine (HS.out _).mono ?_
    rintro e v2 ⟨rfl, hB2⟩
    have hZ2 := hB2.size
    (try simp at hZ2)
    (try have zl2 : w.heap.size < v2.heap.size := by omega)
    (try have ze2 : w.heap.size ≤ v2.heap.size := by omega)
    (try have zn2 : ¬ w.heap.size = v2.heap.size := by omega)
    (try have zm2 : ¬ v2.heap.size = w.heap.size := by omega)
    have hC2_0 := fun o => (calm_cells hB2).1 (w.heap.size) o (by first | omega | (simp <;> omega))
    have hF2_0 := fun o => (calm_cells hB2).2 (w.heap.size) o (by first | omega | (simp <;> omega))
    (try have hl2_0 : w.heap.size < v2.heap.size := by omega)
    (try have hm2_0 : ¬ w.heap.size = v2.heap.size := by omega)
    (try have hn2_0 : ¬ v2.heap.size = w.heap.size := by omega)
    go_wp2_with fail
    refine (toForm_any a b c _).mono ?_
    rintro e v3 ⟨rfl, hB3⟩
    have hZ3 := hB3.size
    (try simp at hZ3)
    (try have zl3 : w.heap.size < v3.heap.size := by omega)
    (try have ze3 : w.heap.size ≤ v3.heap.size := by omega)
    (try have zn3 : ¬ w.heap.size = v3.heap.size := by omega)
    (try have zm3 : ¬ v3.heap.size = w.heap.size := by omega)
    have hC3_0 := fun o => (calm_cells hB3).1 (w.heap.size) o (by first | omega | (simp <;> omega))
    have hF3_0 := fun o => (calm_cells hB3).2 (w.heap.size) o (by first | omega | (simp <;> omega))
    (try have hl3_0 : w.heap.size < v3.heap.size := by omega)
    (try have hm3_0 : ¬ w.heap.size = v3.heap.size := by omega)
    (try have hn3_0 : ¬ v3.heap.size = w.heap.size := by omega)
    go_wp2_with fail
    refine (HI.out _).mono ?_
    rintro e v4 ⟨rfl, hB4⟩
    have hZ4 := hB4.size
    (try simp at hZ4)
    (try have zl4 : w.heap.size < v4.heap.size := by omega)
    (try have ze4 : w.heap.size ≤ v4.heap.size := by omega)
    (try have zn4 : ¬ w.heap.size = v4.heap.size := by omega)
    (try have zm4 : ¬ v4.heap.size = w.heap.size := by omega)
    have hC4_0 := fun o => (calm_cells hB4).1 (w.heap.size) o (by first | omega | (simp <;> omega))
    have hF4_0 := fun o => (calm_cells hB4).2 (w.heap.size) o (by first | omega | (simp <;> omega))
    (try have hl4_0 : w.heap.size < v4.heap.size := by omega)
    (try have hm4_0 : ¬ w.heap.size = v4.heap.size := by omega)
    (try have hn4_0 : ¬ v4.heap.size = w.heap.size := by omega)
    go_wp2
    go_ret
    exact ⟨rfl, (by repeat (first | with_reducible exact Below.refl _ _ | with_reducible assumption | with_reducible apply Below.drew | with_reducible apply below_drewN | (with_reducible apply below_setp; (first | omega | (simp <;> omega))) | (with_reducible apply below_allocp; (first | omega | (simp <;> omega))) | (with_reducible refine below_viap (by assumption) ?_ ?_; (first | omega | (simp <;> omega)))))⟩

theorem own_FnExactIsSquareClass : ownKnob Try.prog.godebug = none := by kernel_rfl

set_option maxRecDepth 100000 in
theorem lifted_FnExactIsSquareClass (os : Os) (started : os.Started) (H : Type) (enc : TypeId × Value → H) :
    ReturnsInHanded {} Try.checked os 3 .any (Rows.fnExactIsSquareClassSpec.pre6 enc Try.prog Try.f3 Rows.fnExactIsSquareClassRow.domain false) (Rows.fnExactIsSquareClassSpec.post enc Try.prog Try.f3 false true false false) := by
  refine returnsInHanded_of_change (C := Try.checked) own_FnExactIsSquareClass started (by kernel_rfl) Try.func3
    (ChangeSpec.witness6 (enc := enc) (C := Try.checked) false ⟨#[], #[.agg #[.int .i64 0, .int .i64 0, .int .i64 0]], []⟩ 8 (by kernel_rfl) (by kernel_rfl) (by kernel_rfl) (by kernel_rfl)) ?_
  intro W base args ds gs before hval0 hW hcnd _
  have hval : ∀ (j : Nat) t v, Try.f3.params[j]? = some t → args[j]? = some v → Value.okWide Try.prog W .any base t v := hval0
  have hW' := hW
  obtain ⟨p, q, hA0, hV, rfl, hfz, hnd⟩ := hW
  have hA : DataW.TrodAll enc Try.prog W 0 (fun _ => true) true Try.f3.params.toList args.toList ds p := hA0
  rw [Try.params3] at hA hval
  obtain ⟨v0, vs0, d0, ds0, p0, q0, hargs, rfl, rfl, h0, r0⟩ := trodAll_cons hA
  obtain ⟨rfl, rfl, rfl⟩ := trodAll_nil r0
  obtain rfl : args = #[v0] := by cases args; simp_all
  obtain ⟨rfl, rfl⟩ := trodVars_none hV
  obtain ⟨c0_0, c0_1, c0_2, y0_0, y0_1, y0_2, m0, rfl, rfl, rfl, g0_0, g0_1, g0_2⟩ := open_agg3 Try.underlying23 (by kernel_rfl) (show Try.prog.cellsOf 23 = 3 by kernel_rfl) (hval 0 23 v0 rfl rfl) h0
  obtain ⟨a0_0, e0_0, rfl, w0_0⟩ := DataW.trod_int Try.underlying3 g0_0
  obtain ⟨a0_1, e0_1, rfl, w0_1⟩ := DataW.trod_int Try.underlying3 g0_1
  obtain ⟨a0_2, e0_2, rfl, w0_2⟩ := DataW.trod_int Try.underlying3 g0_2
  simp at e0_0 e0_1 e0_2
  subst e0_0 e0_1 e0_2
  clear hA0 hval0
  simp only [List.append_nil] at hW'
  refine (walk_FnExactIsSquareClass a0_0 a0_1 a0_2 W).mono fun e W' ⟨he, hg⟩ => ?_
  subst he
  exact ⟨_, rfl, post_of_below (pa := []) (pv := []) hW' (fun _ _ _ => (trodAll_cons_mk (shut_bool Try.underlying4 _) trodAll_mk0)) (fun sp _ => (trodAll_cons_mk (shut_agg3 (y0 := (.lit (.int .i64 a0_0), [])) (y1 := (.lit (.int .i64 a0_1), [])) (y2 := (.lit (.int .i64 a0_2), [])) Try.underlying23 (by kernel_rfl) (show Try.prog.cellsOf 23 = 3 by kernel_rfl) ⟨1, by simp [DataW.trod, Try.underlying3, w0_0]⟩ ⟨1, by simp [DataW.trod, Try.underlying3, w0_1]⟩ ⟨1, by simp [DataW.trod, Try.underlying3, w0_2]⟩) trodAll_mk0)) (fun _ _ => rfl) rfl
    hg (ok_one (by kernel_rfl) rfl (okWide_bool_mk Try.underlying4 _))⟩

/-- The statement. -/
theorem holds_FnExactIsSquareClass : Rows.FnExactIsSquareClassSaid :=
  OpenClaim.holds_of_wide 3 Try.f3 rfl rfl rfl rfl rfl rfl rfl ⟨rfl, rfl, rfl, rfl, rfl⟩ rfl rfl rfl rfl rfl (by kernel_rfl) Try.func3 (by kernel_rfl)
    (of_decide_eq_true (by kernel_rfl)) (by unfold Func.isWrapper; first | (rw [if_pos (by decide +kernel)]; kernel_rfl) | (rw [if_neg (by decide +kernel)]; exact ⟨rfl, rfl⟩))
    (fun os started H enc _ => lifted_FnExactIsSquareClass os started H enc)
#print axioms holds_FnExactIsSquareClass
end Go.Proofs.Ytononfokhdmofaa
