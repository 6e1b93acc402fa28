/- For every discriminant and list of primes, the program's RelationSize returns what the reference's returns, and leaves the primes alone (the law FnExactRelationSize returns true and leaves its arguments alone). Conditions: none. -/
import Derived.Test.YtcijjnjgifoipaaPE
import Derived.Test.YtcijjnjgifoipaaN11
import Derived.Test.YtcijjnjgifoipaaA2
import Derived.Test.YtcijjnjgifoipaaW2
namespace Go.Proofs.Ytcijjnjgifoipaa
open Go.RowKit Go.ChangeShapes Go.WideShapes Go.ChangeAt Go.Joins

set_option maxRecDepth 100000 in
set_option maxHeartbeats 6400000 in
theorem walk_FnExactRelationSize (d : Int) (zs : List Int) (v : Value) (w : World) (hz : ∀ n ∈ zs, -9223372036854775808 ≤ n ∧ n ≤ 9223372036854775807) (h : RdI zs v w) :
    Calls Try.prog 4 #[.int .i64 d, v] w fun e w' => e = .returned (.bool true) ∧ Below w.heap.size w w' := by
  have H := Lib.hid h
  obtain ⟨A, cap, rfl, _⟩ := h
  clear hz
  by_cases hlen : zs.length ≤ 1048576
  · have hn1 : zs.length ≤ 10000000 := by omega
    have HS := Lib.hid (fun (w : World) (v : Value) (B : Nat) h => specRz_any d zs v B w hn1 h)
    have HI := Lib.hid (fun (w : World) (v : Value) (B : Nat) h => implRz_any d zs v B w hn1 h)
    have HC := Lib.hid (fun (w : World) h => toIntS_any zs (.slice A zs.length cap) w hlen h)
    obtain ⟨n, hn⟩ : ∃ n : Int, (((rzO d zs).getD 0 : Nat) : Int) = n := ⟨_, rfl⟩
    obtain ⟨ok, hok⟩ : ∃ ok, (rzO d zs).isSome = ok := ⟨_, rfl⟩
    simp only [hn, hok] at HS HI
    clear hn hok
    go_enter Try.func4, Try.ntmps4
    cases ok
    all_goals
      go_wp2_with fail
      refine (HC.out _ H.out).mono ?_
      rintro e v1 ⟨x0, rfl, hx1, hb1⟩
      have hz1 := hb1.size
      go_wp2_with fail
      refine (HS.out _ _ _ hx1).mono ?_
      rintro e v2 ⟨rfl, hb2⟩
      have hz2 := hb2.size
      have bel2 := below_via hb1 hb2 hz1
      go_wp2_with fail
      refine (HC.out _ (H.out.call bel2)).mono ?_
      rintro e v3 ⟨x1, rfl, hx3, hb3⟩
      have hz3 := hb3.size
      have bel3 := below_via bel2 hb3 (by omega)
      go_wp2_with fail
      refine (HI.out _ _ _ hx3).mono ?_
      rintro e v4 ⟨rfl, hb4⟩
      have hz4 := hb4.size
      have bel4 := below_via bel3 hb4 (by omega)
      have hx4 := own_call hb4 hx3
      go_wp2_with fail
      refine (HC.out _ (H.out.call bel4)).mono ?_
      rintro e v6 ⟨x2, rfl, hy6, hb6⟩
      have hz6 := hb6.size
      have bel6 := below_via bel4 hb6 (by omega)
      have hx6 := own_call hb6 hx4
      go_wp2_with fail
      refine (eqIntS_same x1 x2 _ _ zs _ hn1 hx6 hy6).mono ?_
      rintro e v7 ⟨rfl, hb7⟩
      have bel7 := below_via bel6 hb7 (by omega)
      go_wp2
      go_ret
      exact ⟨rfl, bel7⟩
  · have hgt : (1048576 : Int) < zs.length := by omega
    go_enter Try.func4, Try.ntmps4
    go_wp2
    go_ret
    exact ⟨rfl, (by repeat (first | with_reducible exact Below.refl _ _ | with_reducible assumption | with_reducible apply Below.drew | with_reducible apply below_drewN | (with_reducible apply below_setp; (first | omega | (simp <;> omega))) | (with_reducible apply below_allocp; (first | omega | (simp <;> omega))) | (with_reducible refine below_viap (by assumption) ?_ ?_; (first | omega | (simp <;> omega)))))⟩

theorem own_FnExactRelationSize : ownKnob Try.prog.godebug = none := by kernel_rfl

set_option maxRecDepth 100000 in
theorem lifted_FnExactRelationSize (os : Os) (started : os.Started) (H : Type) (enc : TypeId × Value → H) :
    ReturnsInHanded {} Try.checked os 4 .any (Rows.fnExactRelationSizeSpec.pre6 enc Try.prog Try.f4 Rows.fnExactRelationSizeRow.domain false) (Rows.fnExactRelationSizeSpec.post enc Try.prog Try.f4 false true false false) := by
  refine returnsInHanded_of_change (C := Try.checked) own_FnExactRelationSize started (by kernel_rfl) Try.func4
    (ChangeSpec.witness6 (enc := enc) (C := Try.checked) false ⟨#[], #[.int .i64 0, .slice none 0 0], []⟩ 8 (by kernel_rfl) (by kernel_rfl) (by kernel_rfl) (by kernel_rfl)) ?_
  intro W base args ds gs before hval0 hW hcnd _
  have hval : ∀ (j : Nat) t v, Try.f4.params[j]? = some t → args[j]? = some v → Value.okWide Try.prog W .any base t v := hval0
  have hW' := hW
  obtain ⟨p, q, hA0, hV, rfl, hfz, hnd⟩ := hW
  have hA : DataW.TrodAll enc Try.prog W 0 (fun _ => true) true Try.f4.params.toList args.toList ds p := hA0
  rw [Try.params4] at hA hval
  obtain ⟨v0, vs0, d0, ds0, p0, q0, hargs, rfl, rfl, h0, r0⟩ := trodAll_cons hA
  obtain ⟨v1, vs1, d1, ds1, p1, q1, rfl, rfl, rfl, h1, r1⟩ := trodAll_cons r0
  obtain ⟨rfl, rfl, rfl⟩ := trodAll_nil r1
  obtain rfl : args = #[v0, v1] := by cases args; simp_all
  obtain ⟨rfl, rfl⟩ := trodVars_none hV
  obtain ⟨a0, rfl, rfl, rfl, w0⟩ := open_int Try.underlying3 (hval 0 3 v0 rfl rfl) h0
  obtain ⟨zs, hrd, hwf⟩ := open_rdI (hval 1 25 v1 rfl rfl) h1
  have hlt : ∀ x ∈ p1, x.block < W.heap.size := fun x hx => hW'.lt x (by simp [hx])
  clear hA0 hval0
  refine (walk_FnExactRelationSize a0 zs v1 W hwf hrd).mono fun e W' ⟨he, hg⟩ => ?_
  subst he
  exact ⟨_, rfl, post_of_below (pa := [] ++ (p1 ++ [])) (pv := []) hW' (fun _ _ _ => (trodAll_cons_mk (shut_bool Try.underlying4 _) trodAll_mk0)) (fun sp hsp => (trodAll_cons_mk (shut_int Try.underlying3 w0) (trodAll_cons_mk (WideElems.Trod_stays laid_A2 (by kernel_rfl) (of_decide_eq_true (by kernel_rfl)) h1 (fun x hx => hg.same (hlt x hx)) (fun x hx => hsp x (by simp [hx]))) trodAll_mk0))) (fun _ _ => rfl) rfl
    hg (ok_one (by kernel_rfl) rfl (okWide_bool_mk Try.underlying4 _))⟩

/-- The statement. -/
theorem holds_FnExactRelationSize : Rows.FnExactRelationSizeSaid :=
  OpenClaim.holds_of_wide 4 Try.f4 rfl rfl rfl rfl rfl rfl rfl ⟨rfl, rfl, rfl, rfl, rfl⟩ rfl rfl rfl rfl rfl (by kernel_rfl) Try.func4 (by kernel_rfl)
    (of_decide_eq_true (by kernel_rfl)) (by unfold Func.isWrapper; first | (rw [if_pos (by decide +kernel)]; kernel_rfl) | (rw [if_neg (by decide +kernel)]; exact ⟨rfl, rfl⟩))
    (fun os started H enc _ => lifted_FnExactRelationSize os started H enc)
#print axioms holds_FnExactRelationSize
end Go.Proofs.Ytcijjnjgifoipaa
