/- For every discriminant, the program's SplitsOf returns what the reference's returns, in a list of its own that a second call leaves alone (the law FnExactSplitsOf returns true and leaves its argument alone). Conditions: none. -/
import Derived.Test.YtifkmjmhhklkjaaG6
import Derived.Test.YtifkmjmhhklkjaaW2
namespace Go.Proofs.Ytifkmjmhhklkjaa
open Go.RowKit Go.ChangeShapes Go.WideShapes Go.ChangeAt Go.Joins

theorem MarkV.kept {B n : Nat} {m : Int} {v : Value} {w w' : World} (h : MarkV B m n v w) (hb : Below w.heap.size w w') : MarkV B m n v w' := by
  rcases h with h | ⟨g, cap, cur, h1, h2, h3, h4⟩
  · exact .inl h
  · exact .inr ⟨g, cap, cur, h1, h2, h3.call hb, h4⟩
theorem apart_lt {w w2 : World} {B B2 : Nat} {e e2 : TypeId} {sz n sz2 n2 : Nat} {v vl : Value} {xs xs2 : List Value} (h : w.ownsRow B e sz vl n xs) (h2 : w2.ownsRow B2 e2 sz2 v n2 xs2) (hB : w.heap.size ≤ B2) : vl.ownBlock = none ∨ vl.ownBlock ≠ v.ownBlock := by
  cases h3 : vl.ownBlock with
  | none => exact .inl rfl
  | some b =>
    have k1 := (h.lt b h3).2
    refine .inr (fun he => ?_)
    have k2 := (h2.lt b he.symm).1
    omega

set_option maxHeartbeats 1600000 in
theorem walk_FnExactSplitsOf (d : Int) (w : World) :
    Calls Try.prog 5 #[.int .i64 d] w fun e w' => e = .returned (.bool true) ∧ Below w.heap.size w w' := by
  have HS := specSplitsOf_any d
  have HI := implSplitsOf_any d
  have hl : (splitsL d).length ≤ 100000 := Nat.le_trans (splitsL_len d) (by decide)
  generalize isDisc d = ok at HS HI
  generalize splitsL d = L at HS HI hl
  go_enter Try.func5, Try.ntmps5
  cases ok
  all_goals
    go_wp2_with fail
    refine (HS _).mono ?_
    rintro e v1 ⟨vs, rfl, hos1, hb1⟩
    go_wp2_with fail
    refine (HI _).mono ?_
    rintro e v2 ⟨vi, rfl, hoi2, hb2⟩
    have hos2 := own_call hb2 hos1
    go_wp2_with fail
    refine (eqSplitS_same vi vs _ _ L _ hl hoi2 hos2).mono ?_
    rintro e v3 ⟨rfl, hb3⟩
    have hoi3 := own_call hb3 hoi2
    have hos3 := own_call hb3 hos2
    have hap := apart_lt hos1 hoi2 (Nat.le_refl _)
    go_wp2_with fail
    refine (markSplitS_any vi _ L.length _ _ hl hoi3).mono ?_
    rintro e v4 ⟨rfl, hmk4, hg4⟩
    have hos4 := hos3.kept hg4 hap
    have hge := own_ge hoi3
    have hz1 := hb1.size
    have hz2 := hb2.size
    have hz3 := hb3.size
    have hbel3 : Below w.heap.size w v3 := below_via (below_via hb1 hb2 hz1) hb3 (by omega)
    have hbel4 : Below w.heap.size w v4 := hbel3.grown hg4 (by omega) (fun k hk => Nat.le_trans hz1 (hge k hk))
    clear hos1 hos2 hos3 hoi2 hoi3 hb1 hb2 hb3 hg4 hap hge hbel3
    go_wp2_with fail
    refine (heldSplitS_any vi _ L.length _ hl hmk4).mono ?_
    rintro e v5 ⟨rfl, rfl⟩
    go_wp2_with fail
    refine (HI _).mono ?_
    rintro e v6 ⟨vj, rfl, hoj6, hb6⟩
    have hos6 := own_call hb6 hos4
    have hmk6 := hmk4.kept hb6
    go_wp2_with fail
    refine (eqSplitS_same vj vs _ _ L _ hl hoj6 hos6).mono ?_
    rintro e v7 ⟨rfl, hb7⟩
    have hmk7 := hmk6.kept hb7
    have hbel7 : Below w.heap.size w v7 := below_via (below_via hbel4 hb6 hbel4.size) hb7 (Nat.le_trans hbel4.size hb6.size)
    go_wp2_with fail
    refine (heldSplitS_any vi _ L.length _ hl hmk7).mono ?_
    rintro e v8 ⟨rfl, rfl⟩
    go_wp2
    go_ret
    exact ⟨rfl, hbel7⟩

theorem own_FnExactSplitsOf : ownKnob Try.prog.godebug = none := by kernel_rfl

set_option maxRecDepth 100000 in
theorem lifted_FnExactSplitsOf (os : Os) (started : os.Started) (H : Type) (enc : TypeId × Value → H) :
    ReturnsInHanded {} Try.checked os 5 .any (Rows.fnExactSplitsOfSpec.pre6 enc Try.prog Try.f5 Rows.fnExactSplitsOfRow.domain false) (Rows.fnExactSplitsOfSpec.post enc Try.prog Try.f5 false true false false) := by
  refine returnsInHanded_of_change (C := Try.checked) own_FnExactSplitsOf started (by kernel_rfl) Try.func5
    (ChangeSpec.witness6 (enc := enc) (C := Try.checked) false ⟨#[], #[.int .i64 0], []⟩ 8 (by kernel_rfl) (by kernel_rfl) (by kernel_rfl) (by kernel_rfl)) ?_
  intro W base args ds gs before hval0 hW hcnd _
  have hval : ∀ (j : Nat) t v, Try.f5.params[j]? = some t → args[j]? = some v → Value.okWide Try.prog W .any base t v := hval0
  have hW' := hW
  obtain ⟨p, q, hA0, hV, rfl, hfz, hnd⟩ := hW
  have hA : DataW.TrodAll enc Try.prog W 0 (fun _ => true) true Try.f5.params.toList args.toList ds p := hA0
  rw [Try.params5] at hA hval
  obtain ⟨v0, vs0, d0, ds0, p0, q0, hargs, rfl, rfl, h0, r0⟩ := trodAll_cons hA
  obtain ⟨rfl, rfl, rfl⟩ := trodAll_nil r0
  obtain rfl : args = #[v0] := by cases args; simp_all
  obtain ⟨rfl, rfl⟩ := trodVars_none hV
  obtain ⟨a0, rfl, rfl, rfl, w0⟩ := open_int Try.underlying3 (hval 0 3 v0 rfl rfl) h0
  clear hA0 hval0
  simp only [List.append_nil] at hW'
  refine (walk_FnExactSplitsOf a0 W).mono fun e W' ⟨he, hg⟩ => ?_
  subst he
  exact ⟨_, rfl, post_of_below (pa := []) (pv := []) hW' (fun _ _ _ => (trodAll_cons_mk (shut_bool Try.underlying4 _) trodAll_mk0)) (fun sp _ => (trodAll_cons_mk (shut_int Try.underlying3 w0) trodAll_mk0)) (fun _ _ => rfl) rfl
    hg (ok_one (by kernel_rfl) rfl (okWide_bool_mk Try.underlying4 _))⟩

/-- The statement. -/
theorem holds_FnExactSplitsOf : Rows.FnExactSplitsOfSaid :=
  OpenClaim.holds_of_wide 5 Try.f5 rfl rfl rfl rfl rfl rfl rfl ⟨rfl, rfl, rfl, rfl, rfl⟩ rfl rfl rfl rfl rfl (by kernel_rfl) Try.func5 (by kernel_rfl)
    (of_decide_eq_true (by kernel_rfl)) (by unfold Func.isWrapper; first | (rw [if_pos (by decide +kernel)]; kernel_rfl) | (rw [if_neg (by decide +kernel)]; exact ⟨rfl, rfl⟩))
    (fun os started H enc _ => lifted_FnExactSplitsOf os started H enc)
#print axioms holds_FnExactSplitsOf
end Go.Proofs.Ytifkmjmhhklkjaa
