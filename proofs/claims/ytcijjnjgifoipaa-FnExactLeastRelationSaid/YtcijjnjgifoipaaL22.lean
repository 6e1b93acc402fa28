/- For every discriminant and list of primes, the program's LeastRelation returns what the reference's returns, in a list of its own that a second call leaves alone, and leaves the primes alone (the law FnExactLeastRelation returns true and leaves its arguments alone). Conditions: none. -/
import Derived.Test.YtcijjnjgifoipaaPM
import Derived.Test.YtcijjnjgifoipaaY2
import Derived.Test.YtcijjnjgifoipaaN11
import Derived.Test.YtcijjnjgifoipaaA2
import Derived.Test.YtcijjnjgifoipaaW2
namespace Go.Proofs.Ytcijjnjgifoipaa
open Go.RowKit Go.ChangeShapes Go.WideShapes Go.ChangeAt Go.Joins

set_option maxRecDepth 100000 in
set_option maxHeartbeats 6400000 in
theorem walk_FnExactLeastRelation (d : Int) (zs : List Int) (v : Value) (w : World) (_hz : ∀ n ∈ zs, -9223372036854775808 ≤ n ∧ n ≤ 9223372036854775807) (h : RdI zs v w) :
    Calls Try.prog 6 #[.int .i64 d, v] w fun e w' => e = .returned (.bool true) ∧ Below w.heap.size w w' := by
  have H := Lib.hid h
  obtain ⟨A, cap, rfl, _⟩ := h
  by_cases hlen : zs.length ≤ 1048576
  · obtain ⟨L, ok, hL, hl⟩ := lrP_ex d zs
    have hn1 : zs.length ≤ 10000000 := by omega
    have HS := Lib.hid (fun (w : World) (v : Value) (B : Nat) h => specLr_any d v B zs L ok w hn1  hL h)
    have HI := Lib.hid (fun (w : World) (v : Value) (B : Nat) h => implLr_any d v B zs L ok w hn1  hL h)
    have HC := Lib.hid (fun (w : World) h => toIntS_any zs (.slice A zs.length cap) w hlen h)
    clear hL _hz
    go_enter Try.func6, Try.ntmps6
    cases ok
    all_goals
      go_wp2_with fail
      refine (HC.out _ H.out).mono ?_
      rintro e v1 ⟨x0, rfl, hx1, hb1⟩
      have hz1 := hb1.size
      go_wp2_with fail
      refine (HS.out _ _ _ hx1).mono ?_
      rintro e v2 ⟨vs, rfl, hs2, hb2⟩
      have hz2 := hb2.size
      have bel2 := below_via hb1 hb2 hz1
      go_wp2_with fail
      refine (HC.out _ (H.out.call bel2)).mono ?_
      rintro e v3 ⟨x1, rfl, hx3, hb3⟩
      have hz3 := hb3.size
      have bel3 := below_via bel2 hb3 (by omega)
      have hs3 := own_call hb3 hs2
      go_wp2_with fail
      refine (HI.out _ _ _ hx3).mono ?_
      rintro e v4 ⟨vi, rfl, hi4, hb4⟩
      have hz4 := hb4.size
      have bel4 := below_via bel3 hb4 (by omega)
      have hs4 := own_call hb4 hs3
      have hx4 := own_call hb4 hx3
      have hap := apart_ltI hs2 hi4 (by omega)
      go_wp2_with fail
      refine (eqIntS_same vi vs _ _ L _ hl hi4 hs4).mono ?_
      rintro e v5 ⟨rfl, hb5⟩
      have hz5 := hb5.size
      have bel5 := below_via bel4 hb5 (by omega)
      have hs5 := own_call hb5 hs4
      have hi5 := own_call hb5 hi4
      have hx5 := own_call hb5 hx4
      go_wp2_with fail
      refine (HC.out _ (H.out.call bel5)).mono ?_
      rintro e v6 ⟨x2, rfl, hy6, hb6⟩
      have hz6 := hb6.size
      have bel6 := below_via bel5 hb6 (by omega)
      have hs6 := own_call hb6 hs5
      have hi6 := own_call hb6 hi5
      have hx6 := own_call hb6 hx5
      go_wp2_with fail
      refine (eqIntS_same x1 x2 _ _ zs _ hn1 hx6 hy6).mono ?_
      rintro e v7 ⟨rfl, hb7⟩
      have hz7 := hb7.size
      have bel7 := below_via bel6 hb7 (by omega)
      have hs7 := own_call hb7 hs6
      have hi7 := own_call hb7 hi6
      have hx7 := own_call hb7 hx6
      go_wp2_with fail
      refine (markIntS_any x1 _ zs.length _ _ hn1 hx7).mono ?_
      rintro e v8 ⟨rfl, _, hg8⟩
      have hz8 := hg8.size
      have hge := own_ge hx7
      have bel8 : Below w.heap.size w v8 := bel7.grown hg8 (by omega) (fun q hq => Nat.le_trans (by omega) (hge q hq))
      have hs8 := hs7.kept hg8 (keep_of (fun q hq he => by have := own_lt hs2 q hq; have := hge q he; omega))
      have hi8 := hi7.kept hg8 (keep_of (fun q hq he => by have := own_ge hi7 q hq; have := own_lt hx3 q he; omega))
      go_wp2_with fail
      refine (eqIntS_same vi vs _ _ L _ hl hi8 hs8).mono ?_
      rintro e v9 ⟨rfl, hb9⟩
      have hz9 := hb9.size
      have bel9 := below_via bel8 hb9 (by omega)
      have hs9 := own_call hb9 hs8
      have hi9 := own_call hb9 hi8
      go_wp2_with fail
      refine (markIntS_any vi _ L.length _ _ hl hi9).mono ?_
      rintro e v10 ⟨rfl, hm10, hg10⟩
      have hz10 := hg10.size
      have hge2 := own_ge hi9
      have bel10 : Below w.heap.size w v10 := bel9.grown hg10 (by omega) (fun q hq => Nat.le_trans (by omega) (hge2 q hq))
      have hs10 := hs9.kept hg10 hap
      go_wp2_with fail
      refine (heldIntS_any vi _ L.length _ hl hm10).mono ?_
      rintro e u11 ⟨rfl, rfl⟩
      go_wp2_with fail
      refine (HC.out _ (H.out.call bel10)).mono ?_
      rintro e v12 ⟨x3, rfl, hx12, hb12⟩
      have hz12 := hb12.size
      have bel12 := below_via bel10 hb12 (by omega)
      have hs12 := own_call hb12 hs10
      have hm12 := hm10.kept hb12
      go_wp2_with fail
      refine (HI.out _ _ _ hx12).mono ?_
      rintro e v13 ⟨vj, rfl, hj13, hb13⟩
      have hz13 := hb13.size
      have bel13 := below_via bel12 hb13 (by omega)
      have hs13 := own_call hb13 hs12
      have hm13 := hm12.kept hb13
      go_wp2_with fail
      refine (eqIntS_same vj vs _ _ L _ hl hj13 hs13).mono ?_
      rintro e v14 ⟨rfl, hb14⟩
      have bel14 := below_via bel13 hb14 (by omega)
      have hm14 := hm13.kept hb14
      go_wp2_with fail
      refine (heldIntS_any vi _ L.length _ hl hm14).mono ?_
      rintro e u15 ⟨rfl, rfl⟩
      go_wp2
      go_ret
      exact ⟨rfl, bel14⟩
  · have hgt : (1048576 : Int) < zs.length := by omega
    clear _hz
    go_enter Try.func6, Try.ntmps6
    go_wp2
    go_ret
    exact ⟨rfl, (by repeat (first | with_reducible exact Below.refl _ _ | with_reducible assumption | with_reducible apply Below.drew | with_reducible apply below_drewN | (with_reducible apply below_setp; (first | omega | (simp <;> omega))) | (with_reducible apply below_allocp; (first | omega | (simp <;> omega))) | (with_reducible refine below_viap (by assumption) ?_ ?_; (first | omega | (simp <;> omega)))))⟩

theorem own_FnExactLeastRelation : ownKnob Try.prog.godebug = none := by kernel_rfl

set_option maxRecDepth 100000 in
theorem lifted_FnExactLeastRelation (os : Os) (started : os.Started) (H : Type) (enc : TypeId × Value → H) :
    ReturnsInHanded {} Try.checked os 6 .any (Rows.fnExactLeastRelationSpec.pre6 enc Try.prog Try.f6 Rows.fnExactLeastRelationRow.domain false) (Rows.fnExactLeastRelationSpec.post enc Try.prog Try.f6 false true false false) := by
  refine returnsInHanded_of_change (C := Try.checked) own_FnExactLeastRelation started (by kernel_rfl) Try.func6
    (ChangeSpec.witness6 (enc := enc) (C := Try.checked) false ⟨#[], #[.int .i64 0, .slice none 0 0], []⟩ 8 (by kernel_rfl) (by kernel_rfl) (by kernel_rfl) (by kernel_rfl)) ?_
  intro W base args ds gs before hval0 hW hcnd _
  have hval : ∀ (j : Nat) t v, Try.f6.params[j]? = some t → args[j]? = some v → Value.okWide Try.prog W .any base t v := hval0
  have hW' := hW
  obtain ⟨p, q, hA0, hV, rfl, hfz, hnd⟩ := hW
  have hA : DataW.TrodAll enc Try.prog W 0 (fun _ => true) true Try.f6.params.toList args.toList ds p := hA0
  rw [Try.params6] at hA hval
  obtain ⟨v0, vs0, d0, ds0, p0, q0, hargs, rfl, rfl, h0, r0⟩ := trodAll_cons hA
  obtain ⟨v1, vs1, d1, ds1, p1, q1, rfl, rfl, rfl, h1, r1⟩ := trodAll_cons r0
  obtain ⟨rfl, rfl, rfl⟩ := trodAll_nil r1
  obtain rfl : args = #[v0, v1] := by cases args; simp_all
  obtain ⟨rfl, rfl⟩ := trodVars_none hV
  obtain ⟨a0, rfl, rfl, rfl, w0⟩ := open_int Try.underlying3 (hval 0 3 v0 rfl rfl) h0
  obtain ⟨zs, hrd, hwf⟩ := open_rdI (hval 1 25 v1 rfl rfl) h1
  have hlt : ∀ x ∈ p1, x.block < W.heap.size := fun x hx => hW'.lt x (by simp [hx])
  clear hA0 hval0
  refine (walk_FnExactLeastRelation a0 zs v1 W hwf hrd).mono fun e W' ⟨he, hg⟩ => ?_
  subst he
  exact ⟨_, rfl, post_of_below (pa := [] ++ (p1 ++ [])) (pv := []) hW' (fun _ _ _ => (trodAll_cons_mk (shut_bool Try.underlying4 _) trodAll_mk0)) (fun sp hsp => (trodAll_cons_mk (shut_int Try.underlying3 w0) (trodAll_cons_mk (WideElems.Trod_stays laid_A2 (by kernel_rfl) (of_decide_eq_true (by kernel_rfl)) h1 (fun x hx => hg.same (hlt x hx)) (fun x hx => hsp x (by simp [hx]))) trodAll_mk0))) (fun _ _ => rfl) rfl
    hg (ok_one (by kernel_rfl) rfl (okWide_bool_mk Try.underlying4 _))⟩

/-- The statement. -/
theorem holds_FnExactLeastRelation : Rows.FnExactLeastRelationSaid :=
  OpenClaim.holds_of_wide 6 Try.f6 rfl rfl rfl rfl rfl rfl rfl ⟨rfl, rfl, rfl, rfl, rfl⟩ rfl rfl rfl rfl rfl (by kernel_rfl) Try.func6 (by kernel_rfl)
    (of_decide_eq_true (by kernel_rfl)) (by unfold Func.isWrapper; first | (rw [if_pos (by decide +kernel)]; kernel_rfl) | (rw [if_neg (by decide +kernel)]; exact ⟨rfl, rfl⟩))
    (fun os started H enc _ => lifted_FnExactLeastRelation os started H enc)
#print axioms holds_FnExactLeastRelation
end Go.Proofs.Ytcijjnjgifoipaa
