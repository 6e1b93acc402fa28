/- For every discriminant, the program's GeneraOf returns what the reference's returns, in lists of its own that a second call leaves alone (the law FnExactGeneraOf returns true and leaves its argument alone). Conditions: none. -/
import Derived.Test.YtononfokhdmofaaY4
import Derived.Test.YtononfokhdmofaaY5
import Derived.Test.YtononfokhdmofaaW2
namespace Go.Proofs.Ytononfokhdmofaa
open Go.RowKit Go.ChangeShapes Go.WideShapes Go.ChangeAt Go.Joins

theorem genL_bd (d : Int) : (genL d).length ≤ 2000 ∧ ∀ g ∈ genL d, g.length ≤ 2000 := by
  have h := clsL_len d
  refine ⟨?_, fun g hg => ?_⟩
  · unfold genL
    rw [grp_len]
    have := reps_len (κ := gnL d) (clsL d)
    omega
  · obtain ⟨i, hi, rfl⟩ := List.getElem_of_mem hg
    have := grp_row_len (κ := gnL d) (clsL d) (clsL d) i hi
    have e : (genL d)[i] = (grpK (gnL d) (clsL d) (clsL d))[i] := rfl
    rw [e]
    omega
theorem genN_ex (d : Int) : ∃ G ok, ((isDisc d = false ∧ G = [] ∧ ok = false) ∨ (isDisc d = true ∧ G = genL d ∧ ok = true)) ∧ G.length ≤ 2000 ∧ ∀ g ∈ G, g.length ≤ 2000 := by
  cases hc : isDisc d with
  | false => exact ⟨[], false, .inl ⟨rfl, rfl, rfl⟩, by simp, by simp⟩
  | true => exact ⟨_, true, .inr ⟨rfl, rfl, rfl⟩, (genL_bd d).1, (genL_bd d).2⟩

set_option maxRecDepth 100000 in
set_option maxHeartbeats 3200000 in
theorem walk_FnExactGeneraOf (d : Int) (w : World) :
    Calls Try.prog 13 #[.int .i64 d] w fun e w' => e = .returned (.bool true) ∧ Below w.heap.size w w' := by
  obtain ⟨G, ok, hG, hl, hr⟩ := genN_ex d
  have HS := Lib.hid (fun w => specGen_any d G ok w hG)
  have HI := Lib.hid (fun w => implGen_any d G ok w hG)
  have hr2 : ∀ g ∈ G, g.length ≤ 100000 := fun g hg => Nat.le_trans (hr g hg) (by decide)
  clear hG
  go_enter Try.func13, Try.ntmps13
  cases ok
  all_goals
    go_wp2_with fail
    refine (HS.out _).mono ?_
    rintro e v1 ⟨vs, rfl, hs1, hb1⟩
    have hz1 := hb1.size
    go_wp2_with fail
    refine (HI.out _).mono ?_
    rintro e v2 ⟨vi, rfl, hi2, hb2⟩
    have hz2 := hb2.size
    have hs2 := hs1.call hb2
    go_wp2_with fail
    refine (eqFormSS_same vi vs _ _ G _ (by omega) hr2 hi2 hs2).mono ?_
    rintro e v3 ⟨rfl, hb3⟩
    have hz3 := hb3.size
    have hi3 := hi2.call hb3
    go_wp2_with fail
    refine (markFormSS_any vi _ G _ hl hr (by omega) hi3).mono ?_
    rintro e v4 ⟨rfl, hm4, hb4, hz4⟩
    have hb14 : Below v1.heap.size v1 v4 := below_via (below_via hb2 hb3 (by omega)) hb4 (by omega)
    have hbw4 : Below w.heap.size w v4 := below_via hb1 hb14 hz1
    have hH := fun w' h => heldFormSS_any vi v1.heap.size G w' hl hr h
    generalize offN G G.length = t at hH ⊢
    have HH := Lib.hid hH
    clear hH
    go_wp2_with fail
    refine (HH.out _ hm4).mono ?_
    rintro e u5 ⟨rfl, rfl⟩
    go_wp2_with fail
    refine (HI.out _).mono ?_
    rintro e v6 ⟨vj, rfl, hj6, hb6⟩
    have hz6 := hb6.size
    have hm6 := hm4.kept hb6
    have hs6 := hs1.call (below_via hb14 hb6 (by omega))
    go_wp2_with fail
    refine (eqFormSS_same vj vs _ _ G _ (by omega) hr2 hj6 hs6).mono ?_
    rintro e v7 ⟨rfl, hb7⟩
    have hm7 := hm6.kept hb7
    go_wp2_with fail
    refine (HH.out _ hm7).mono ?_
    rintro e u8 ⟨rfl, rfl⟩
    go_wp2
    go_ret
    exact ⟨rfl, below_via (below_via hbw4 hb6 (by omega)) hb7 (by omega)⟩

theorem own_FnExactGeneraOf : ownKnob Try.prog.godebug = none := by kernel_rfl

set_option maxRecDepth 100000 in
theorem lifted_FnExactGeneraOf (os : Os) (started : os.Started) (H : Type) (enc : TypeId × Value → H) :
    ReturnsInHanded {} Try.checked os 13 .any (Rows.fnExactGeneraOfSpec.pre6 enc Try.prog Try.f13 Rows.fnExactGeneraOfRow.domain false) (Rows.fnExactGeneraOfSpec.post enc Try.prog Try.f13 false true false false) := by
  refine returnsInHanded_of_change (C := Try.checked) own_FnExactGeneraOf started (by kernel_rfl) Try.func13
    (ChangeSpec.witness6 (enc := enc) (C := Try.checked) false ⟨#[], #[.int .i64 0], []⟩ 8 (by kernel_rfl) (by kernel_rfl) (by kernel_rfl) (by kernel_rfl)) ?_
  intro W base args ds gs before hval0 hW hcnd _
  have hval : ∀ (j : Nat) t v, Try.f13.params[j]? = some t → args[j]? = some v → Value.okWide Try.prog W .any base t v := hval0
  have hW' := hW
  obtain ⟨p, q, hA0, hV, rfl, hfz, hnd⟩ := hW
  have hA : DataW.TrodAll enc Try.prog W 0 (fun _ => true) true Try.f13.params.toList args.toList ds p := hA0
  rw [Try.params13] at hA hval
  obtain ⟨v0, vs0, d0, ds0, p0, q0, hargs, rfl, rfl, h0, r0⟩ := trodAll_cons hA
  obtain ⟨rfl, rfl, rfl⟩ := trodAll_nil r0
  obtain rfl : args = #[v0] := by cases args; simp_all
  obtain ⟨rfl, rfl⟩ := trodVars_none hV
  obtain ⟨a0, rfl, rfl, rfl, w0⟩ := open_int Try.underlying3 (hval 0 3 v0 rfl rfl) h0
  clear hA0 hval0
  simp only [List.append_nil] at hW'
  refine (walk_FnExactGeneraOf a0 W).mono fun e W' ⟨he, hg⟩ => ?_
  subst he
  exact ⟨_, rfl, post_of_below (pa := []) (pv := []) hW' (fun _ _ _ => (trodAll_cons_mk (shut_bool Try.underlying4 _) trodAll_mk0)) (fun sp _ => (trodAll_cons_mk (shut_int Try.underlying3 w0) trodAll_mk0)) (fun _ _ => rfl) rfl
    hg (ok_one (by kernel_rfl) rfl (okWide_bool_mk Try.underlying4 _))⟩

/-- The statement. -/
theorem holds_FnExactGeneraOf : Rows.FnExactGeneraOfSaid :=
  OpenClaim.holds_of_wide 13 Try.f13 rfl rfl rfl rfl rfl rfl rfl ⟨rfl, rfl, rfl, rfl, rfl⟩ rfl rfl rfl rfl rfl (by kernel_rfl) Try.func13 (by kernel_rfl)
    (of_decide_eq_true (by kernel_rfl)) (by unfold Func.isWrapper; first | (rw [if_pos (by decide +kernel)]; kernel_rfl) | (rw [if_neg (by decide +kernel)]; exact ⟨rfl, rfl⟩))
    (fun os started H enc _ => lifted_FnExactGeneraOf os started H enc)
#print axioms holds_FnExactGeneraOf
end Go.Proofs.Ytononfokhdmofaa
