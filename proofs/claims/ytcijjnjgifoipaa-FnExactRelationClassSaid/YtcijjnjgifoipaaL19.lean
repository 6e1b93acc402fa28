/- For every discriminant, list of primes and list of exponents, the program's RelationClass returns what the reference's returns, and leaves the lists alone (the law FnExactRelationClass returns true and leaves its arguments alone). Conditions: none. -/
import Derived.Test.YtcijjnjgifoipaaPI
import Derived.Test.YtcijjnjgifoipaaN11
import Derived.Test.YtcijjnjgifoipaaA2
import Derived.Test.YtcijjnjgifoipaaW2
namespace Go.Proofs.Ytcijjnjgifoipaa
open Go.RowKit Go.ChangeShapes Go.WideShapes Go.ChangeAt Go.Joins

set_option maxRecDepth 100000 in
set_option maxHeartbeats 6400000 in
theorem walk_FnExactRelationClass (d : Int) (zs es : List Int) (v u : Value) (w : World) (_hz : ∀ n ∈ zs, -9223372036854775808 ≤ n ∧ n ≤ 9223372036854775807) (he : ∀ n ∈ es, -9223372036854775808 ≤ n ∧ n ≤ 9223372036854775807) (h : RdI zs v w) (h2 : RdI es u w) :
    Calls Try.prog 5 #[.int .i64 d, v, u] w fun e w' => e = .returned (.bool true) ∧ Below w.heap.size w w' := by
  have H := Lib.hid h
  have H2 := Lib.hid h2
  obtain ⟨A, cap, rfl, _⟩ := h
  obtain ⟨A2, cap2, rfl, _⟩ := h2
  by_cases hlen : zs.length ≤ 1048576
  · by_cases hlen2 : es.length ≤ 1048576
    · have hn1 : zs.length ≤ 10000000 := by omega
      have hn2 : es.length ≤ 10000000 := by omega
      have HS := Lib.hid (fun (w : World) (v u : Value) (B B2 : Nat) h h2 => specRc_any d zs es v u B B2 w hn1 hn2 h h2)
      have HI := Lib.hid (fun (w : World) (v u : Value) (B B2 : Nat) h h2 => implRc_any d zs es v u B B2 w hn1 hn2 he h h2)
      have HC := Lib.hid (fun (w : World) h => toIntS_any zs (.slice A zs.length cap) w hlen h)
      have HD := Lib.hid (fun (w : World) h => toIntS_any es (.slice A2 es.length cap2) w hlen2 h)
      obtain ⟨f, hf⟩ : ∃ f, pfV (rcO d zs es) = f := ⟨_, rfl⟩
      obtain ⟨ok, hok⟩ : ∃ ok, (rcO d zs es).isSome = ok := ⟨_, rfl⟩
      simp only [hf, hok] at HS HI
      have hEq := Lib.hid (fun w => eqForm_same f.a f.b f.c w)
      clear hf hok he
      go_enter Try.func5, Try.ntmps5
      cases ok
      all_goals
        go_wp2_with fail
        refine (HC.out _ H.out).mono ?_
        rintro e v1 ⟨x0, rfl, hx1, hb1⟩
        have hz1 := hb1.size
        go_wp2_with fail
        refine (HD.out _ (H2.out.call hb1)).mono ?_
        rintro e v2 ⟨y0, rfl, hy2, hb2⟩
        have hz2 := hb2.size
        have bel2 := below_via hb1 hb2 hz1
        go_wp2_with fail
        refine (HS.out _ _ _ _ _ (own_call hb2 hx1) hy2).mono ?_
        rintro e v3 ⟨rfl, hb3⟩
        have hz3 := hb3.size
        have bel3 := below_via bel2 hb3 (by omega)
        have bel3a : Below w.heap.size w (v3.alloc (.cells #[.int .i64 f.a, .int .i64 f.b, .int .i64 f.c] 32)) := (by repeat (first | with_reducible exact Below.refl _ _ | with_reducible assumption | with_reducible apply Below.drew | with_reducible apply below_drewN | (with_reducible apply below_setp; (first | omega | (simp <;> omega))) | (with_reducible apply below_allocp; (first | omega | (simp <;> omega))) | (with_reducible refine below_viap (by assumption) ?_ ?_; (first | omega | (simp <;> omega)))))
        go_wp2_with fail
        refine (HC.out _ (H.out.call bel3a)).mono ?_
        rintro e v4 ⟨x1, rfl, hx4, hb4⟩
        have hz4 := hb4.size
        (try simp at hz4)
        have hF4 : Blk v4 v3.heap.size 32 #[.int .i64 f.a, .int .i64 f.b, .int .i64 f.c] := Blk.call (by (repeat (first | with_reducible assumption | (with_reducible apply Blk.new_at; (first | rfl | (simp; done))) | with_reducible apply Blk.store3 | with_reducible apply Blk.store4 | (with_reducible apply Blk.farp; (first | omega | (simp <;> omega))) | with_reducible apply Blk.allocp | with_reducible apply Blk.drew | with_reducible apply Blk.drewN))) hb4
        have bel4 := below_via bel3a hb4 (by simp; omega)
        go_wp2_with fail
        refine (HD.out _ (H2.out.call bel4)).mono ?_
        rintro e v5 ⟨x2, rfl, hy5, hb5⟩
        have hz5 := hb5.size
        have hF5 := Blk.call hF4 hb5
        have bel5 := below_via bel4 hb5 (by omega)
        have hx5 := own_call hb5 hx4
        go_wp2_with fail
        refine (HI.out _ _ _ _ _ hx5 hy5).mono ?_
        rintro e v6 ⟨rfl, hb6⟩
        have hz6 := hb6.size
        have hF6 := Blk.call hF5 hb6
        have cF6 := hF6.cell; have fF6 := hF6.frozen; have lF6 := hF6.lt
        have bel6 := below_via bel5 hb6 (by omega)
        have hx6 := own_call hb6 hx5
        have hy6 := own_call hb6 hy5
        have n1 : ¬ v3.heap.size = v6.heap.size := by omega
        have n2 : ¬ v6.heap.size = v3.heap.size := by omega
        have bel6a : Below w.heap.size w (v6.alloc (.cells #[.int .i64 f.a, .int .i64 f.b, .int .i64 f.c] 32)) := (by repeat (first | with_reducible exact Below.refl _ _ | with_reducible assumption | with_reducible apply Below.drew | with_reducible apply below_drewN | (with_reducible apply below_setp; (first | omega | (simp <;> omega))) | (with_reducible apply below_allocp; (first | omega | (simp <;> omega))) | (with_reducible refine below_viap (by assumption) ?_ ?_; (first | omega | (simp <;> omega)))))
        go_wp2_with fail
        refine (hEq.out _).mono ?_
        rintro e v7 ⟨rfl, hb7⟩
        have hz7 := hb7.size
        (try simp at hz7)
        have bel7 := below_via bel6a hb7 (by simp; omega)
        have hx7 := own_call hb7 (own_alloc (o := .cells #[.int .i64 f.a, .int .i64 f.b, .int .i64 f.c] 32) hx6)
        have hy7 := own_call hb7 (own_alloc (o := .cells #[.int .i64 f.a, .int .i64 f.b, .int .i64 f.c] 32) hy6)
        go_wp2_with fail
        refine (HC.out _ (H.out.call bel7)).mono ?_
        rintro e v8 ⟨x3, rfl, hx8, hb8⟩
        have hz8 := hb8.size
        have bel8 := below_via bel7 hb8 (by omega)
        go_wp2_with fail
        refine (eqIntS_same x1 x3 _ _ zs _ hn1 (own_call hb8 hx7) hx8).mono ?_
        rintro e v9 ⟨rfl, hb9⟩
        have hz9 := hb9.size
        have bel9 := below_via bel8 hb9 (by omega)
        have hy9 := own_call hb9 (own_call hb8 hy7)
        go_wp2_with fail
        refine (HD.out _ (H2.out.call bel9)).mono ?_
        rintro e v10 ⟨x4, rfl, hy10, hb10⟩
        have hz10 := hb10.size
        have bel10 := below_via bel9 hb10 (by omega)
        go_wp2_with fail
        refine (eqIntS_same x2 x4 _ _ es _ hn2 (own_call hb10 hy9) hy10).mono ?_
        rintro e v11 ⟨rfl, hb11⟩
        have bel11 := below_via bel10 hb11 (by omega)
        go_wp2
        go_ret
        exact ⟨rfl, bel11⟩
    · have hgt : (1048576 : Int) < es.length := by omega
      clear he
      go_enter Try.func5, Try.ntmps5
      go_wp2
      go_ret
      exact ⟨rfl, (by repeat (first | with_reducible exact Below.refl _ _ | with_reducible assumption | with_reducible apply Below.drew | with_reducible apply below_drewN | (with_reducible apply below_setp; (first | omega | (simp <;> omega))) | (with_reducible apply below_allocp; (first | omega | (simp <;> omega))) | (with_reducible refine below_viap (by assumption) ?_ ?_; (first | omega | (simp <;> omega)))))⟩
  · have hgt : (1048576 : Int) < zs.length := by omega
    clear he
    go_enter Try.func5, Try.ntmps5
    go_wp2
    go_ret
    exact ⟨rfl, (by repeat (first | with_reducible exact Below.refl _ _ | with_reducible assumption | with_reducible apply Below.drew | with_reducible apply below_drewN | (with_reducible apply below_setp; (first | omega | (simp <;> omega))) | (with_reducible apply below_allocp; (first | omega | (simp <;> omega))) | (with_reducible refine below_viap (by assumption) ?_ ?_; (first | omega | (simp <;> omega)))))⟩

theorem own_FnExactRelationClass : ownKnob Try.prog.godebug = none := by kernel_rfl

set_option maxRecDepth 100000 in
theorem lifted_FnExactRelationClass (os : Os) (started : os.Started) (H : Type) (enc : TypeId × Value → H) :
    ReturnsInHanded {} Try.checked os 5 .any (Rows.fnExactRelationClassSpec.pre6 enc Try.prog Try.f5 Rows.fnExactRelationClassRow.domain false) (Rows.fnExactRelationClassSpec.post enc Try.prog Try.f5 false true false false) := by
  refine returnsInHanded_of_change (C := Try.checked) own_FnExactRelationClass started (by kernel_rfl) Try.func5
    (ChangeSpec.witness6 (enc := enc) (C := Try.checked) false ⟨#[], #[.int .i64 0, .slice none 0 0, .slice none 0 0], []⟩ 8 (by kernel_rfl) (by kernel_rfl) (by kernel_rfl) (by kernel_rfl)) ?_
  intro W base args ds gs before hval0 hW hcnd _
  have hval : ∀ (j : Nat) t v, Try.f5.params[j]? = some t → args[j]? = some v → Value.okWide Try.prog W .any base t v := hval0
  have hW' := hW
  obtain ⟨p, q, hA0, hV, rfl, hfz, hnd⟩ := hW
  have hA : DataW.TrodAll enc Try.prog W 0 (fun _ => true) true Try.f5.params.toList args.toList ds p := hA0
  rw [Try.params5] at hA hval
  obtain ⟨v0, vs0, d0, ds0, p0, q0, hargs, rfl, rfl, h0, r0⟩ := trodAll_cons hA
  obtain ⟨v1, vs1, d1, ds1, p1, q1, rfl, rfl, rfl, h1, r1⟩ := trodAll_cons r0
  obtain ⟨v2, vs2, d2, ds2, p2, q2, rfl, rfl, rfl, h2, r2⟩ := trodAll_cons r1
  obtain ⟨rfl, rfl, rfl⟩ := trodAll_nil r2
  obtain rfl : args = #[v0, v1, v2] := by cases args; simp_all
  obtain ⟨rfl, rfl⟩ := trodVars_none hV
  obtain ⟨a0, rfl, rfl, rfl, w0⟩ := open_int Try.underlying3 (hval 0 3 v0 rfl rfl) h0
  obtain ⟨zs, hrd, hwf⟩ := open_rdI (hval 1 25 v1 rfl rfl) h1
  obtain ⟨es, hre, hwe⟩ := open_rdI (hval 2 25 v2 rfl rfl) h2
  have hlt1 : ∀ x ∈ p1, x.block < W.heap.size := fun x hx => hW'.lt x (by simp [hx])
  have hlt2 : ∀ x ∈ p2, x.block < W.heap.size := fun x hx => hW'.lt x (by simp [hx])
  clear hA0 hval0
  refine (walk_FnExactRelationClass a0 zs es v1 v2 W hwf hwe hrd hre).mono fun e W' ⟨he, hg⟩ => ?_
  subst he
  exact ⟨_, rfl, post_of_below (pa := [] ++ (p1 ++ (p2 ++ []))) (pv := []) hW' (fun _ _ _ => (trodAll_cons_mk (shut_bool Try.underlying4 _) trodAll_mk0)) (fun sp hsp => (trodAll_cons_mk (shut_int Try.underlying3 w0) (trodAll_cons_mk (WideElems.Trod_stays laid_A2 (by kernel_rfl) (of_decide_eq_true (by kernel_rfl)) h1 (fun x hx => hg.same (hlt1 x hx)) (fun x hx => hsp x (by simp [hx]))) (trodAll_cons_mk (WideElems.Trod_stays laid_A2 (by kernel_rfl) (of_decide_eq_true (by kernel_rfl)) h2 (fun x hx => hg.same (hlt2 x hx)) (fun x hx => hsp x (by simp [hx]))) trodAll_mk0)))) (fun _ _ => rfl) rfl
    hg (ok_one (by kernel_rfl) rfl (okWide_bool_mk Try.underlying4 _))⟩

/-- The statement. -/
theorem holds_FnExactRelationClass : Rows.FnExactRelationClassSaid :=
  OpenClaim.holds_of_wide 5 Try.f5 rfl rfl rfl rfl rfl rfl rfl ⟨rfl, rfl, rfl, rfl, rfl⟩ rfl rfl rfl rfl rfl (by kernel_rfl) Try.func5 (by kernel_rfl)
    (of_decide_eq_true (by kernel_rfl)) (by unfold Func.isWrapper; first | (rw [if_pos (by decide +kernel)]; kernel_rfl) | (rw [if_neg (by decide +kernel)]; exact ⟨rfl, rfl⟩))
    (fun os started H enc _ => lifted_FnExactRelationClass os started H enc)
#print axioms holds_FnExactRelationClass
end Go.Proofs.Ytcijjnjgifoipaa
