/- For every discriminant, the program's GroupBasis returns what the reference's returns, in a list of its own that a second call leaves alone (the law FnExactGroupBasis returns true and leaves its arguments alone). Conditions: none. -/
import Derived.Test.YtkkamlhpappebaaBE
import Derived.Test.YtkkamlhpappebaaG7
import Derived.Test.YtkkamlhpappebaaW2
namespace Go.Proofs.Ytkkamlhpappebaa
open Go.RowKit Go.ChangeShapes Go.WideShapes Go.ChangeAt Go.Joins

set_option maxRecDepth 100000 in
set_option maxHeartbeats 3200000 in
theorem walk_FnExactGroupBasis (k0 : Int) (w : World) :
    Calls Try.prog 7 #[.int .i64 k0] w fun e w' => e = .returned (.bool true) ∧ Below w.heap.size w w' := by
  obtain ⟨L, ok, hL, hl⟩ := guL_ex k0
  have HS := Lib.hid (fun w => specGu_any k0 L ok w hL)
  have HI := Lib.hid (fun w => implGu_any k0 L ok w hL)
  clear hL
  go_enter Try.func7, Try.ntmps7
  cases ok
  all_goals
    go_wp2_with fail
    refine (HS.out _).mono ?_
    rintro e v1 ⟨vs, rfl, hs1, hb1⟩
    have hz1 := hb1.size
    (try simp at hz1)
    have hbel1 : Below w.heap.size w v1 := by first | exact hb1 | exact (by repeat (first | with_reducible exact Below.refl _ _ | with_reducible assumption | with_reducible apply Below.drew | with_reducible apply below_drewN | (with_reducible apply below_setp; (first | omega | (simp <;> omega))) | (with_reducible apply below_allocp; (first | omega | (simp <;> omega))) | (with_reducible refine below_viap (by assumption) ?_ ?_; (first | omega | (simp <;> omega)))))
    go_wp2_with fail
    refine (HI.out _).mono ?_
    rintro e v2 ⟨vi, rfl, hi2, hb2⟩
    have hz2 := hb2.size
    (try simp at hz2)
    have hbel2 : Below w.heap.size w v2 := below_via hbel1 hb2 hbel1.size
    have hs2 := own_call hb2 hs1
    have hap := apart_lt3 hs1 hi2 (Nat.le_refl _)
    go_wp2_with fail
    refine (eqFormS_same vi vs _ _ L _ hl hi2 hs2).mono ?_
    rintro e v3 ⟨rfl, hb3⟩
    have hz3 := hb3.size
    (try simp at hz3)
    have hbel3 : Below w.heap.size w v3 := below_via hbel2 hb3 hbel2.size
    have hs3 := own_call hb3 hs2
    have hi3 := own_call hb3 hi2
    go_wp2_with fail
    refine (markFormS_any vi _ L.length _ _ hl hi3).mono ?_
    rintro e v4 ⟨rfl, hm4, hg4⟩
    have hs4 := hs3.kept hg4 hap
    have hge := own_ge hi3
    have hbel4 : Below w.heap.size w v4 := hbel3.grown hg4 hbel3.size (fun q hq => Nat.le_trans (by omega) (hge q hq))
    go_wp2_with fail
    refine (heldFormS_any vi _ L.length _ hl hm4).mono ?_
    rintro e u5 ⟨rfl, rfl⟩
    go_wp2_with fail
    refine (HI.out _).mono ?_
    rintro e v6 ⟨vj, rfl, hj6, hb6⟩
    have hz6 := hb6.size
    (try simp at hz6)
    have hbel6 : Below w.heap.size w v6 := below_via hbel4 hb6 hbel4.size
    have hs6 := own_call hb6 hs4
    have hm6 := hm4.kept hb6
    go_wp2_with fail
    refine (eqFormS_same vj vs _ _ L _ hl hj6 hs6).mono ?_
    rintro e v7 ⟨rfl, hb7⟩
    have hz7 := hb7.size
    (try simp at hz7)
    have hbel7 : Below w.heap.size w v7 := below_via hbel6 hb7 hbel6.size
    have hs7 := own_call hb7 hs6
    have hm7 := hm6.kept hb7
    go_wp2_with fail
    refine (heldFormS_any vi _ L.length _ hl hm7).mono ?_
    rintro e u8 ⟨rfl, rfl⟩
    go_wp2
    go_ret
    exact ⟨rfl, hbel7⟩

theorem own_FnExactGroupBasis : ownKnob Try.prog.godebug = none := by kernel_rfl

set_option maxRecDepth 100000 in
theorem lifted_FnExactGroupBasis (os : Os) (started : os.Started) (H : Type) (enc : TypeId × Value → H) :
    ReturnsInHanded {} Try.checked os 7 .any (Rows.fnExactGroupBasisSpec.pre6 enc Try.prog Try.f7 Rows.fnExactGroupBasisRow.domain false) (Rows.fnExactGroupBasisSpec.post enc Try.prog Try.f7 false true false false) := by
  refine returnsInHanded_of_change (C := Try.checked) own_FnExactGroupBasis started (by kernel_rfl) Try.func7
    (ChangeSpec.witness6 (enc := enc) (C := Try.checked) false ⟨#[], #[.int .i64 0], []⟩ 8 (by kernel_rfl) (by kernel_rfl) (by kernel_rfl) (by kernel_rfl)) ?_
  intro W base args ds gs before hval0 hW hcnd _
  have hval : ∀ (j : Nat) t v, Try.f7.params[j]? = some t → args[j]? = some v → Value.okWide Try.prog W .any base t v := hval0
  have hW' := hW
  obtain ⟨p, q, hA0, hV, rfl, hfz, hnd⟩ := hW
  have hA : DataW.TrodAll enc Try.prog W 0 (fun _ => true) true Try.f7.params.toList args.toList ds p := hA0
  rw [Try.params7] at hA hval
  obtain ⟨v0, vs0, d0, ds0, p0, q0, hargs, rfl, rfl, h0, r0⟩ := trodAll_cons hA
  obtain ⟨rfl, rfl, rfl⟩ := trodAll_nil r0
  obtain rfl : args = #[v0] := by cases args; simp_all
  obtain ⟨rfl, rfl⟩ := trodVars_none hV
  obtain ⟨a0, rfl, rfl, rfl, w0⟩ := open_int Try.underlying3 (hval 0 3 v0 rfl rfl) h0
  clear hA0 hval0
  simp only [List.append_nil] at hW'
  refine (walk_FnExactGroupBasis a0 W).mono fun e W' ⟨he, hg⟩ => ?_
  subst he
  exact ⟨_, rfl, post_of_below (pa := []) (pv := []) hW' (fun _ _ _ => (trodAll_cons_mk (shut_bool Try.underlying4 _) trodAll_mk0)) (fun sp _ => (trodAll_cons_mk (shut_int Try.underlying3 w0) trodAll_mk0)) (fun _ _ => rfl) rfl
    hg (ok_one (by kernel_rfl) rfl (okWide_bool_mk Try.underlying4 _))⟩

/-- The statement. -/
theorem holds_FnExactGroupBasis : Rows.FnExactGroupBasisSaid :=
  OpenClaim.holds_of_wide 7 Try.f7 rfl rfl rfl rfl rfl rfl rfl ⟨rfl, rfl, rfl, rfl, rfl⟩ rfl rfl rfl rfl rfl (by kernel_rfl) Try.func7 (by kernel_rfl)
    (of_decide_eq_true (by kernel_rfl)) (by unfold Func.isWrapper; first | (rw [if_pos (by decide +kernel)]; kernel_rfl) | (rw [if_neg (by decide +kernel)]; exact ⟨rfl, rfl⟩))
    (fun os started H enc _ => lifted_FnExactGroupBasis os started H enc)
#print axioms holds_FnExactGroupBasis
end Go.Proofs.Ytkkamlhpappebaa
