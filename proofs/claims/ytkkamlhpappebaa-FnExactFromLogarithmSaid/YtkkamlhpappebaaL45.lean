/- For every discriminant and list of exponents, the program's FromLogarithm returns what the reference's returns, and leaves the list alone (the law FnExactFromLogarithm returns true and leaves its arguments alone). Conditions: none. -/
import Derived.Test.YtkkamlhpappebaaLZ
import Derived.Test.YtkkamlhpappebaaN11
import Derived.Test.YtkkamlhpappebaaA2
import Derived.Test.YtkkamlhpappebaaW2
namespace Go.Proofs.Ytkkamlhpappebaa
open Go.RowKit Go.ChangeShapes Go.WideShapes Go.ChangeAt Go.Joins

set_option maxRecDepth 100000 in
set_option maxHeartbeats 6400000 in
theorem walk_FnExactFromLogarithm (d : Int) (zs : List Int) (v : Value) (w : World) (_hz : ∀ n ∈ zs, -9223372036854775808 ≤ n ∧ n ≤ 9223372036854775807) (h : RdI zs v w) :
    Calls Try.prog 8 #[.int .i64 d, v] w fun e w' => e = .returned (.bool true) ∧ Below w.heap.size w w' := by
  have H := Lib.hid h
  obtain ⟨A, cap, rfl, _⟩ := h
  by_cases hlen : zs.length ≤ 1048576
  · obtain ⟨f, ok, hL⟩ := flF_ex d zs
    have hn1 : zs.length ≤ 10000000 := by omega
    have HS := Lib.hid (fun (w : World) (v : Value) (B : Nat) h => specFl_any d zs v B f ok w hn1 hL h)
    have HI := Lib.hid (fun (w : World) (v : Value) (B : Nat) h => implFl_any d zs v B f ok w hn1 hL h)
    have HC := Lib.hid (fun (w : World) h => toIntS_any zs (.slice A zs.length cap) w hlen h)
    have hEq := Lib.hid (fun w => eqForm_same f.a f.b f.c w)
    clear hL
    go_enter Try.func8, Try.ntmps8
    cases ok
    all_goals
      go_wp2_with fail
      refine (HC.out _ H.out).mono ?_
      rintro e v1 ⟨x0, rfl, hx1, hb1⟩
      have hz1 := hb1.size
      go_wp2_with fail
      refine (HS.out _ _ _ hx1).mono ?_
      rintro e v3 ⟨rfl, hb3⟩
      have hz3 := hb3.size
      have bel3 := below_via hb1 hb3 hz1
      have bel3a : Below w.heap.size w (v3.alloc (.cells #[.int .i64 f.a, .int .i64 f.b, .int .i64 f.c] 35)) := (by repeat (first | with_reducible exact Below.refl _ _ | with_reducible assumption | with_reducible apply Below.drew | with_reducible apply below_drewN | (with_reducible apply below_setp; (first | omega | (simp <;> omega))) | (with_reducible apply below_allocp; (first | omega | (simp <;> omega))) | (with_reducible refine below_viap (by assumption) ?_ ?_; (first | omega | (simp <;> omega)))))
      go_wp2_with fail
      refine (HC.out _ (H.out.call bel3a)).mono ?_
      rintro e v4 ⟨x1, rfl, hx4, hb4⟩
      have hz4 := hb4.size
      (try simp at hz4)
      have hF4 : Blk v4 v3.heap.size 35 #[.int .i64 f.a, .int .i64 f.b, .int .i64 f.c] := Blk.call (by (repeat (first | with_reducible assumption | (with_reducible apply Blk.new_at; (first | rfl | (simp; done))) | with_reducible apply Blk.store3 | with_reducible apply Blk.store4 | (with_reducible apply Blk.farp; (first | omega | (simp <;> omega))) | with_reducible apply Blk.allocp | with_reducible apply Blk.drew | with_reducible apply Blk.drewN))) hb4
      have bel4 := below_via bel3a hb4 (by simp; omega)
      go_wp2_with fail
      refine (HI.out _ _ _ hx4).mono ?_
      rintro e v6 ⟨rfl, hb6⟩
      have hz6 := hb6.size
      have hF6 := Blk.call hF4 hb6
      have cF6 := hF6.cell; have fF6 := hF6.frozen; have lF6 := hF6.lt
      have bel6 := below_via bel4 hb6 (by omega)
      have hx6 := own_call hb6 hx4
      have n1 : ¬ v3.heap.size = v6.heap.size := by omega
      have n2 : ¬ v6.heap.size = v3.heap.size := by omega
      have bel6a : Below w.heap.size w (v6.alloc (.cells #[.int .i64 f.a, .int .i64 f.b, .int .i64 f.c] 35)) := (by repeat (first | with_reducible exact Below.refl _ _ | with_reducible assumption | with_reducible apply Below.drew | with_reducible apply below_drewN | (with_reducible apply below_setp; (first | omega | (simp <;> omega))) | (with_reducible apply below_allocp; (first | omega | (simp <;> omega))) | (with_reducible refine below_viap (by assumption) ?_ ?_; (first | omega | (simp <;> omega)))))
      go_wp2_with fail
      refine (hEq.out _).mono ?_
      rintro e v7 ⟨rfl, hb7⟩
      have hz7 := hb7.size
      (try simp at hz7)
      have bel7 := below_via bel6a hb7 (by simp; omega)
      have hx7 := own_call hb7 (own_alloc (o := .cells #[.int .i64 f.a, .int .i64 f.b, .int .i64 f.c] 35) hx6)
      go_wp2_with fail
      refine (HC.out _ (H.out.call bel7)).mono ?_
      rintro e v8 ⟨x3, rfl, hx8, hb8⟩
      have hz8 := hb8.size
      have bel8 := below_via bel7 hb8 (by omega)
      go_wp2_with fail
      refine (eqIntS_same x1 x3 _ _ zs _ hn1 (own_call hb8 hx7) hx8).mono ?_
      rintro e v9 ⟨rfl, hb9⟩
      have bel9 := below_via bel8 hb9 (by omega)
      go_wp2
      go_ret
      exact ⟨rfl, bel9⟩
  · have hgt : (1048576 : Int) < zs.length := by omega
    go_enter Try.func8, Try.ntmps8
    go_wp2
    go_ret
    exact ⟨rfl, (by repeat (first | with_reducible exact Below.refl _ _ | with_reducible assumption | with_reducible apply Below.drew | with_reducible apply below_drewN | (with_reducible apply below_setp; (first | omega | (simp <;> omega))) | (with_reducible apply below_allocp; (first | omega | (simp <;> omega))) | (with_reducible refine below_viap (by assumption) ?_ ?_; (first | omega | (simp <;> omega)))))⟩

theorem own_FnExactFromLogarithm : ownKnob Try.prog.godebug = none := by kernel_rfl

set_option maxRecDepth 100000 in
theorem lifted_FnExactFromLogarithm (os : Os) (started : os.Started) (H : Type) (enc : TypeId × Value → H) :
    ReturnsInHanded {} Try.checked os 8 .any (Rows.fnExactFromLogarithmSpec.pre6 enc Try.prog Try.f8 Rows.fnExactFromLogarithmRow.domain false) (Rows.fnExactFromLogarithmSpec.post enc Try.prog Try.f8 false true false false) := by
  refine returnsInHanded_of_change (C := Try.checked) own_FnExactFromLogarithm started (by kernel_rfl) Try.func8
    (ChangeSpec.witness6 (enc := enc) (C := Try.checked) false ⟨#[], #[.int .i64 0, .slice none 0 0], []⟩ 8 (by kernel_rfl) (by kernel_rfl) (by kernel_rfl) (by kernel_rfl)) ?_
  intro W base args ds gs before hval0 hW hcnd _
  have hval : ∀ (j : Nat) t v, Try.f8.params[j]? = some t → args[j]? = some v → Value.okWide Try.prog W .any base t v := hval0
  have hW' := hW
  obtain ⟨p, q, hA0, hV, rfl, hfz, hnd⟩ := hW
  have hA : DataW.TrodAll enc Try.prog W 0 (fun _ => true) true Try.f8.params.toList args.toList ds p := hA0
  rw [Try.params8] at hA hval
  obtain ⟨v0, vs0, d0, ds0, p0, q0, hargs, rfl, rfl, h0, r0⟩ := trodAll_cons hA
  obtain ⟨v1, vs1, d1, ds1, p1, q1, rfl, rfl, rfl, h1, r1⟩ := trodAll_cons r0
  obtain ⟨rfl, rfl, rfl⟩ := trodAll_nil r1
  obtain rfl : args = #[v0, v1] := by cases args; simp_all
  obtain ⟨rfl, rfl⟩ := trodVars_none hV
  obtain ⟨a0, rfl, rfl, rfl, w0⟩ := open_int Try.underlying3 (hval 0 3 v0 rfl rfl) h0
  obtain ⟨zs, hrd, hwf⟩ := open_rdI (hval 1 30 v1 rfl rfl) h1
  have hlt : ∀ x ∈ p1, x.block < W.heap.size := fun x hx => hW'.lt x (by simp [hx])
  clear hA0 hval0
  refine (walk_FnExactFromLogarithm a0 zs v1 W hwf hrd).mono fun e W' ⟨he, hg⟩ => ?_
  subst he
  exact ⟨_, rfl, post_of_below (pa := [] ++ (p1 ++ [])) (pv := []) hW' (fun _ _ _ => (trodAll_cons_mk (shut_bool Try.underlying4 _) trodAll_mk0)) (fun sp hsp => (trodAll_cons_mk (shut_int Try.underlying3 w0) (trodAll_cons_mk (WideElems.Trod_stays laid_A2 (by kernel_rfl) (of_decide_eq_true (by kernel_rfl)) h1 (fun x hx => hg.same (hlt x hx)) (fun x hx => hsp x (by simp [hx]))) trodAll_mk0))) (fun _ _ => rfl) rfl
    hg (ok_one (by kernel_rfl) rfl (okWide_bool_mk Try.underlying4 _))⟩

/-- The statement. -/
theorem holds_FnExactFromLogarithm : Rows.FnExactFromLogarithmSaid :=
  OpenClaim.holds_of_wide 8 Try.f8 rfl rfl rfl rfl rfl rfl rfl ⟨rfl, rfl, rfl, rfl, rfl⟩ rfl rfl rfl rfl rfl (by kernel_rfl) Try.func8 (by kernel_rfl)
    (of_decide_eq_true (by kernel_rfl)) (by unfold Func.isWrapper; first | (rw [if_pos (by decide +kernel)]; kernel_rfl) | (rw [if_neg (by decide +kernel)]; exact ⟨rfl, rfl⟩))
    (fun os started H enc _ => lifted_FnExactFromLogarithm os started H enc)
#print axioms holds_FnExactFromLogarithm
end Go.Proofs.Ytkkamlhpappebaa
