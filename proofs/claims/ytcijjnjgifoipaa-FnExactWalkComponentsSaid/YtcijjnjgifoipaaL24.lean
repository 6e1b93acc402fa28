/- For every discriminant and list of primes, the program's WalkComponents returns what the reference's returns, in lists of its own that a second call leaves alone, and leaves the primes alone (the law FnExactWalkComponents returns true and leaves its arguments alone). Conditions: none. -/
import Derived.Test.YtcijjnjgifoipaaHI
import Derived.Test.YtcijjnjgifoipaaY5
import Derived.Test.YtcijjnjgifoipaaN11
import Derived.Test.YtcijjnjgifoipaaA2
import Derived.Test.YtcijjnjgifoipaaW2
namespace Go.Proofs.Ytcijjnjgifoipaa
open Go.RowKit Go.ChangeShapes Go.WideShapes Go.ChangeAt Go.Joins

theorem NestF.kept3 {B : Nat} {G : List (List Fm)} {v s : Value} {w w' : World} (h : NestF B G v w) (hg : w.grownBy w' s.ownBlock) (hs : ∀ q, s.ownBlock = some q → q < B) : NestF B G v w' := by
  obtain ⟨vs, h⟩ := h
  refine ⟨vs, h.1.kept hg (keep_of (fun q hq he => by have := own_ge h.1 q hq; have := hs q he; omega)), fun i hi => ?_, h.2.2⟩
  obtain ⟨u, h1, h2, h3⟩ := h.2.1 i hi
  exact ⟨u, h1, h2.kept hg (keep_of (fun q hq he => by have := own_ge h2 q hq; have := hs q he; omega)), h3⟩

set_option maxRecDepth 100000 in
set_option maxHeartbeats 6400000 in
theorem walk_FnExactWalkComponents (d : Int) (zs : List Int) (v : Value) (w : World) (_hz : ∀ n ∈ zs, -9223372036854775808 ≤ n ∧ n ≤ 9223372036854775807) (h : RdI zs v w) :
    Calls Try.prog 7 #[.int .i64 d, v] w fun e w' => e = .returned (.bool true) ∧ Below w.heap.size w w' := by
  have H := Lib.hid h
  obtain ⟨A, cap, rfl, _⟩ := h
  by_cases hlen : zs.length ≤ 1048576
  · obtain ⟨G, ok, hG, hl, hr⟩ := wcP_ex d zs
    have hn1 : zs.length ≤ 10000000 := by omega
    have HS := Lib.hid (fun (w : World) (v : Value) (B : Nat) h => specWc_any d v B zs G ok w hn1 hG h)
    have HI := Lib.hid (fun (w : World) (v : Value) (B : Nat) h => implWc_any d v B zs G ok w hn1 hG h)
    have HC := Lib.hid (fun (w : World) h => toIntS_any zs (.slice A zs.length cap) w hlen h)
    have hE := Lib.hid (fun (v u : Value) (B B2 : Nat) (w : World) h1 h2 => eqFormSS_same v u B B2 G w (by omega) (fun g hg => Nat.le_trans (hr g hg) (by omega)) h1 h2)
    have hMk := Lib.hid (fun (v : Value) (B : Nat) (w : World) hB h => markFormSS_any v B G w hl hr hB h)
    have hHd := Lib.hid (fun (v : Value) (B : Nat) (w : World) h => heldFormSS_any v B G w hl hr h)
    generalize offN G G.length = t at hMk hHd
    clear hG _hz
    go_enter Try.func7, Try.ntmps7
    cases ok
    all_goals
      go_wp2_with fail
      refine (HC.out _ H.out).mono ?_
      rintro e v1 ⟨x0, rfl, hx1, hb1⟩
      have hz1 := hb1.size
      go_wp2_with fail
      refine (HS.out _ _ _ hx1).mono ?_
      rintro e v2 ⟨vs, rfl, hs2, hb2⟩
      have hz2 := hb2.size
      have bel2 := below_via hb1 hb2 hz1
      go_wp2_with fail
      refine (HC.out _ (H.out.call bel2)).mono ?_
      rintro e v3 ⟨x1, rfl, hx3, hb3⟩
      have hz3 := hb3.size
      have hge := own_ge hx3
      have hlt := own_lt hx3
      go_wp2_with fail
      refine (HI.out _ _ _ hx3).mono ?_
      rintro e v4 ⟨vi, rfl, hi4, hb4⟩
      have hz4 := hb4.size
      have belS4 := below_via hb3 hb4 (by omega)
      have hx4 := own_call hb4 hx3
      go_wp2_with fail
      refine (hE.out vi vs _ _ _ hi4 (hs2.call belS4)).mono ?_
      rintro e v5 ⟨rfl, hb5⟩
      have hz5 := hb5.size
      have belS5 := below_via belS4 hb5 (by omega)
      have hi5 := hi4.call hb5
      have hx5 := own_call hb5 hx4
      go_wp2_with fail
      refine (HC.out _ (H.out.call (below_via bel2 belS5 (by omega)))).mono ?_
      rintro e v6 ⟨x2, rfl, hy6, hb6⟩
      have hz6 := hb6.size
      have belS6 := below_via belS5 hb6 (by omega)
      have hi6 := hi5.call hb6
      have hx6 := own_call hb6 hx5
      go_wp2_with fail
      refine (eqIntS_same x1 x2 _ _ zs _ hn1 hx6 hy6).mono ?_
      rintro e v7 ⟨rfl, hb7⟩
      have hz7 := hb7.size
      have belS7 := below_via belS6 hb7 (by omega)
      have hi7 := hi6.call hb7
      have hx7 := own_call hb7 hx6
      go_wp2_with fail
      refine (markIntS_any x1 _ zs.length _ _ hn1 hx7).mono ?_
      rintro e v8 ⟨rfl, _, hg8⟩
      have hz8 := hg8.size
      have belS8 : Below v2.heap.size v2 v8 := belS7.grown hg8 (by omega) (fun q hq => hge q hq)
      have hi8 := hi7.kept3 hg8 (fun q hq => hlt q hq)
      go_wp2_with fail
      refine (hE.out vi vs _ _ _ hi8 (hs2.call belS8)).mono ?_
      rintro e v9 ⟨rfl, hb9⟩
      have hz9 := hb9.size
      have belS9 := below_via belS8 hb9 (by omega)
      have hi9 := hi8.call hb9
      go_wp2_with fail
      refine (hMk.out vi _ _ (by omega) hi9).mono ?_
      rintro e v10 ⟨rfl, hm10, hb10, hz10⟩
      have belS10 := below_via belS9 hb10 (by omega)
      go_wp2_with fail
      refine (hHd.out vi _ _ hm10).mono ?_
      rintro e u11 ⟨rfl, rfl⟩
      go_wp2_with fail
      refine (HC.out _ (H.out.call (below_via bel2 belS10 (by omega)))).mono ?_
      rintro e v12 ⟨x3, rfl, hx12, hb12⟩
      have hz12 := hb12.size
      have belS12 := below_via belS10 hb12 (by omega)
      have hm12 := hm10.kept hb12
      go_wp2_with fail
      refine (HI.out _ _ _ hx12).mono ?_
      rintro e v13 ⟨vj, rfl, hj13, hb13⟩
      have hz13 := hb13.size
      have belS13 := below_via belS12 hb13 (by omega)
      have hm13 := hm12.kept hb13
      go_wp2_with fail
      refine (hE.out vj vs _ _ _ hj13 (hs2.call belS13)).mono ?_
      rintro e v14 ⟨rfl, hb14⟩
      have belS14 := below_via belS13 hb14 (by omega)
      have hm14 := hm13.kept hb14
      go_wp2_with fail
      refine (hHd.out vi _ _ hm14).mono ?_
      rintro e u15 ⟨rfl, rfl⟩
      go_wp2
      go_ret
      exact ⟨rfl, below_via bel2 belS14 (by omega)⟩
  · have hgt : (1048576 : Int) < zs.length := by omega
    clear _hz
    go_enter Try.func7, Try.ntmps7
    go_wp2
    go_ret
    exact ⟨rfl, (by repeat (first | with_reducible exact Below.refl _ _ | with_reducible assumption | with_reducible apply Below.drew | with_reducible apply below_drewN | (with_reducible apply below_setp; (first | omega | (simp <;> omega))) | (with_reducible apply below_allocp; (first | omega | (simp <;> omega))) | (with_reducible refine below_viap (by assumption) ?_ ?_; (first | omega | (simp <;> omega)))))⟩

theorem own_FnExactWalkComponents : ownKnob Try.prog.godebug = none := by kernel_rfl

set_option maxRecDepth 100000 in
theorem lifted_FnExactWalkComponents (os : Os) (started : os.Started) (H : Type) (enc : TypeId × Value → H) :
    ReturnsInHanded {} Try.checked os 7 .any (Rows.fnExactWalkComponentsSpec.pre6 enc Try.prog Try.f7 Rows.fnExactWalkComponentsRow.domain false) (Rows.fnExactWalkComponentsSpec.post enc Try.prog Try.f7 false true false false) := by
  refine returnsInHanded_of_change (C := Try.checked) own_FnExactWalkComponents started (by kernel_rfl) Try.func7
    (ChangeSpec.witness6 (enc := enc) (C := Try.checked) false ⟨#[], #[.int .i64 0, .slice none 0 0], []⟩ 8 (by kernel_rfl) (by kernel_rfl) (by kernel_rfl) (by kernel_rfl)) ?_
  intro W base args ds gs before hval0 hW hcnd _
  have hval : ∀ (j : Nat) t v, Try.f7.params[j]? = some t → args[j]? = some v → Value.okWide Try.prog W .any base t v := hval0
  have hW' := hW
  obtain ⟨p, q, hA0, hV, rfl, hfz, hnd⟩ := hW
  have hA : DataW.TrodAll enc Try.prog W 0 (fun _ => true) true Try.f7.params.toList args.toList ds p := hA0
  rw [Try.params7] at hA hval
  obtain ⟨v0, vs0, d0, ds0, p0, q0, hargs, rfl, rfl, h0, r0⟩ := trodAll_cons hA
  obtain ⟨v1, vs1, d1, ds1, p1, q1, rfl, rfl, rfl, h1, r1⟩ := trodAll_cons r0
  obtain ⟨rfl, rfl, rfl⟩ := trodAll_nil r1
  obtain rfl : args = #[v0, v1] := by cases args; simp_all
  obtain ⟨rfl, rfl⟩ := trodVars_none hV
  obtain ⟨a0, rfl, rfl, rfl, w0⟩ := open_int Try.underlying3 (hval 0 3 v0 rfl rfl) h0
  obtain ⟨zs, hrd, hwf⟩ := open_rdI (hval 1 25 v1 rfl rfl) h1
  have hlt : ∀ x ∈ p1, x.block < W.heap.size := fun x hx => hW'.lt x (by simp [hx])
  clear hA0 hval0
  refine (walk_FnExactWalkComponents a0 zs v1 W hwf hrd).mono fun e W' ⟨he, hg⟩ => ?_
  subst he
  exact ⟨_, rfl, post_of_below (pa := [] ++ (p1 ++ [])) (pv := []) hW' (fun _ _ _ => (trodAll_cons_mk (shut_bool Try.underlying4 _) trodAll_mk0)) (fun sp hsp => (trodAll_cons_mk (shut_int Try.underlying3 w0) (trodAll_cons_mk (WideElems.Trod_stays laid_A2 (by kernel_rfl) (of_decide_eq_true (by kernel_rfl)) h1 (fun x hx => hg.same (hlt x hx)) (fun x hx => hsp x (by simp [hx]))) trodAll_mk0))) (fun _ _ => rfl) rfl
    hg (ok_one (by kernel_rfl) rfl (okWide_bool_mk Try.underlying4 _))⟩

/-- The statement. -/
theorem holds_FnExactWalkComponents : Rows.FnExactWalkComponentsSaid :=
  OpenClaim.holds_of_wide 7 Try.f7 rfl rfl rfl rfl rfl rfl rfl ⟨rfl, rfl, rfl, rfl, rfl⟩ rfl rfl rfl rfl rfl (by kernel_rfl) Try.func7 (by kernel_rfl)
    (of_decide_eq_true (by kernel_rfl)) (by unfold Func.isWrapper; first | (rw [if_pos (by decide +kernel)]; kernel_rfl) | (rw [if_neg (by decide +kernel)]; exact ⟨rfl, rfl⟩))
    (fun os started H enc _ => lifted_FnExactWalkComponents os started H enc)
#print axioms holds_FnExactWalkComponents
end Go.Proofs.Ytcijjnjgifoipaa
