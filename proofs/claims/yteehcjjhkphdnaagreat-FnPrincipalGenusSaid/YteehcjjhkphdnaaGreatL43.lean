/- FnPrincipalGenus returns true: for every drawn discriminant, the squares are the principal genus, and there are as many genera as ambiguous classes, a power of 2. Conditions: none. -/
import Derived.Test.YteehcjjhkphdnaaGreatDX
import Derived.Test.YteehcjjhkphdnaaGreatDA
import Derived.Test.YteehcjjhkphdnaaGreatDB
import Derived.Test.YteehcjjhkphdnaaGreatGX
import Derived.Test.YteehcjjhkphdnaaGreatSX
import Derived.Test.YteehcjjhkphdnaaGreatK8
import Derived.Test.YteehcjjhkphdnaaGreatQX
import Derived.Test.YteehcjjhkphdnaaGreatW2
namespace Go.Proofs.YteehcjjhkphdnaaGreat
open Go.RowKit Go.ChangeShapes Go.WideShapes Go.ChangeAt Go.Joins

set_option maxRecDepth 100000 in
set_option maxHeartbeats 6400000 in
theorem walk_FnPrincipalGenus (zs es : List Int) (v u : Value) (w : World) (hz : ReB zs v w) (he : ReB es u w) :
    Calls Tryz.prog 3 #[v, u] w fun e w' => e = .returned (.bool true) ∧ Below w.heap.size w w' := by
  have HZ := Lib.hid hz
  obtain ⟨A, c, rfl⟩ := hz.shape
  obtain ⟨A2, c2, rfl⟩ := he.shape
  clear hz he
  by_cases hbig : zs.length ≤ 1048576 ∧ es.length ≤ 1048576 - zs.length
  · have Hb := Lib.hid (fun w => big_no A A2 zs.length es.length c c2 w hbig.1 hbig.2)
    have HR := Lib.hid (HZ.out.rd hbig.1)
    clear HZ hbig
    go_enter Tryz.func3, Tryz.ntmps3
    go_wp2_with (go_at_call 10; (with_reducible refine (Hb.out _).mono ?_); rintro e v ⟨rfl, rfl⟩)
    refine (drawSquare_any zs _ _ _ HR.out (Nat.le_refl _)).mono ?_
    rintro e w1 ⟨d, rfl, hd, hb1⟩
    have hz1 := hb1.size
    clear hd
    cases hc : isDisc d with
    | false =>
      have HS := Lib.hid (fun w => specSq_any d [] false w (.inl ⟨hc, rfl, rfl⟩))
      have HI := Lib.hid (fun w => implSq_any d [] false w (.inl ⟨hc, rfl, rfl⟩))
      clear hc
      go_wp2_with fail
      refine (HI.out _).mono ?_
      rintro e w2 ⟨vi, rfl, hi2, hb2⟩
      have hz2 := hb2.size
      go_wp2_with fail
      refine (HS.out _).mono ?_
      rintro e w3 ⟨vs, rfl, hs3, hb3⟩
      have hz3 := hb3.size
      have hi3 := own_call hb3 hi2
      have hb13 := below_via hb1 (below_via hb2 hb3 hz2) hz1
      go_wp2_with (go_at_call 14; refine (pSameForms_same vi vs _ _ [] _ (by simp) hi3 hs3).mono ?_; rintro e w4 ⟨rfl, hb4⟩)
      go_ret
      exact ⟨rfl, below_via hb13 hb4 hb13.size⟩
    | true =>
      have D := dsc_of hc
      obtain ⟨j, hj, hj20⟩ := am_pow D
      have hcls := h_sq D
      have HS := Lib.hid (fun w => specSq_any d (sqL d) true w (.inr (.inr ⟨hc, 2, rfl, by decide, rfl, rfl⟩)))
      have HI := Lib.hid (fun w => implSq_any d (sqL d) true w (.inr (.inr ⟨hc, 2, rfl, by decide, rfl, rfl⟩)))
      have HP := Lib.hid (fun w => implPG_any d (sqL d) true w (.inr ⟨hc, (pg_eq_sq D).symm, rfl⟩))
      have HG := Lib.hid (fun w => implGC_any d (amL d).length true w (.inr ⟨hc, by rw [gen_count D], rfl⟩))
      have HA := Lib.hid (fun w => implAC_any d (amL d) true w (.inr ⟨hc, rfl, rfl⟩))
      have HT := Lib.hid (fun w => implTR_any d (j : Nat) true w (.inr ⟨hc, by
        show (j : Int) = expo 2 ((amL d).length : Nat)
        rw [hj]
        exact (expo_pow (p := 2) (by omega) j).symm, rfl⟩))
      have HC := Lib.hid (fun w => implCN_any d ((sqL d).length * (amL d).length : Nat) true w (.inr ⟨hc, by rw [hcls], rfl⟩))
      have hsl : (sqL d).length ≤ 10000000 := Nat.le_trans (List.length_filter_le _ _) (Nat.le_trans (clsL_len _) (by decide))
      have hal : (amL d).length ≤ 1640 := Nat.le_trans (List.length_filter_le _ _) (clsL_len _)
      have hsl2 : (sqL d).length ≤ 1640 := Nat.le_trans (List.length_filter_le _ _) (clsL_len _)
      rw [hj] at HG HC hal
      obtain ⟨AL, hAL⟩ : ∃ AL, amL d = AL := ⟨_, rfl⟩
      rw [hAL] at HA hj
      obtain ⟨N, hN⟩ : ∃ N : Nat, 2 ^ j = N := ⟨_, rfl⟩
      rw [hN] at HG HC hal hj
      have HN := Lib.hid hN
      clear hN
      generalize sqL d = L at *
      clear hc D hcls hAL
      go_wp2_with fail
      refine (HI.out _).mono ?_
      rintro e w2 ⟨vi, rfl, hi2, hb2⟩
      have hz2 := hb2.size
      go_wp2_with fail
      refine (HS.out _).mono ?_
      rintro e w3 ⟨vs, rfl, hs3, hb3⟩
      have hz3 := hb3.size
      have hi3 := own_call hb3 hi2
      have hb13 := below_via hb1 (below_via hb2 hb3 hz2) hz1
      clear hi2 hb1 hb2 hb3
      go_wp2_with (go_at_call 14; refine (pSameForms_same vi vs _ _ L _ hsl hi3 hs3).mono ?_; rintro e w4 ⟨rfl, hb4⟩)
      refine (HP.out _).mono ?_
      rintro e w5 ⟨vp, rfl, hp5, hb5⟩
      have hz4 := hb4.size
      have hz5 := hb5.size
      have hi5 := own_call hb5 (own_call hb4 hi3)
      have hb15 := below_via hb13 (below_via hb4 hb5 hz4) hb13.size
      clear hi3 hs3 hb4 hb5 hb13 HI HS HP
      go_wp2_with fail
      refine (HG.out _).mono ?_
      rintro e w6 ⟨rfl, hb6⟩
      have hp6 := own_call hb6 hp5
      have hi6 := own_call hb6 hi5
      have hb16 := below_via hb15 hb6 hb15.size
      clear hp5 hi5 hb6 hb15 HG
      go_wp2_with fail
      refine (HA.out _).mono ?_
      rintro e w7 ⟨va, rfl, ha7, hb7⟩
      have hp7 := own_call hb7 hp6
      have hi7 := own_call hb7 hi6
      have hb17 := below_via hb16 hb7 hb16.size
      obtain ⟨ba, ca, rfl⟩ := own_shape ha7
      clear hp6 hi6 hb7 hb16 HA ha7
      go_wp2_with fail
      refine (HT.out _).mono ?_
      rintro e w8 ⟨rfl, hb8⟩
      have hp8 := own_call hb8 hp7
      have hi8 := own_call hb8 hi7
      have hb18 := below_via hb17 hb8 hb17.size
      clear hp7 hi7 hb8 hb17 HT
      go_wp2_with fail
      refine (HC.out _).mono ?_
      rintro e w9 ⟨rfl, hb9⟩
      have hp9 := own_call hb9 hp8
      have hi9 := own_call hb9 hi8
      have hb19 := below_via hb18 hb9 hb18.size
      clear hp8 hi8 hb9 hb18 HC
      obtain ⟨bi, ci, rfl⟩ := own_shape hi9
      have hj1 : IntKind.u64.wrap (j : Int) = j := wraps_u63 _ (by omega) (by omega)
      have hN1 : wrap64 ((2 : Int) ^ j) = (N : Int) := by
        rw [← HN.out, IntWalk.wrap64_in _ (by
          have h1 := HN.out
          have h2 : ((2 ^ j : Nat) : Int) = (2 : Int) ^ j := by simp
          rw [← h2, h1]
          omega)]
        simp
      have hN2 : wrap64 ((N : Int) * (L.length : Int)) = (L.length : Int) * N := by
        have h1 : L.length * N ≤ 1640 * 1640 := Nat.mul_le_mul hsl2 hal
        rw [Int.mul_comm, ← Int.natCast_mul]
        exact IntWalk.wrap64_in _ (by omega)
      go_wp2_with (go_at_call 14; refine (pSameForms_same vp _ _ _ L _ hsl hp9 hi9).mono ?_; rintro e w10 ⟨rfl, hb10⟩)
      go_ret
      exact ⟨rfl, below_via hb19 hb10 hb19.size⟩
  · have Hb := Lib.hid (fun w => big_yes A A2 zs.length es.length c c2 w hbig)
    clear HZ hbig
    go_enter Tryz.func3, Tryz.ntmps3
    go_wp2_with (go_at_call 10; (with_reducible refine (Hb.out _).mono ?_); rintro e v ⟨rfl, rfl⟩)
    go_ret
    exact ⟨rfl, (by repeat (first | with_reducible exact Below.refl _ _ | with_reducible assumption | with_reducible apply Below.drew | with_reducible apply below_drewN | (with_reducible apply below_setp; (first | omega | (simp <;> omega))) | (with_reducible apply below_allocp; (first | omega | (simp <;> omega))) | (with_reducible refine below_viap (by assumption) ?_ ?_; (first | omega | (simp <;> omega)))))⟩
theorem own_FnPrincipalGenus : ownKnob Tryz.prog.godebug = none := by kernel_rfl

set_option maxRecDepth 100000 in
theorem lifted_FnPrincipalGenus (os : Os) (started : os.Started) (H : Type) (enc : TypeId × Value → H) :
    ReturnsInHanded {} Tryz.checked os 3 .any (Rows.fnPrincipalGenusSpec.pre6 enc Tryz.prog Tryz.f3 Rows.fnPrincipalGenusRow.domain false) (Rows.fnPrincipalGenusSpec.post enc Tryz.prog Tryz.f3 false true false false) := by
  refine returnsInHanded_of_change (C := Tryz.checked) own_FnPrincipalGenus started (by kernel_rfl) Tryz.func3
    (ChangeSpec.witness6 (enc := enc) (C := Tryz.checked) false ⟨#[], #[.slice none 0 0, .slice none 0 0], []⟩ 8 (by kernel_rfl) (by kernel_rfl) (by kernel_rfl) (by kernel_rfl)) ?_
  intro W base args ds gs before hval0 hW hcnd _
  have hval : ∀ (j : Nat) t v, Tryz.f3.params[j]? = some t → args[j]? = some v → Value.okWide Tryz.prog W .any base t v := hval0
  have hW' := hW
  obtain ⟨p, q, hA0, hV, rfl, hfz, hnd⟩ := hW
  have hA : DataW.TrodAll enc Tryz.prog W 0 (fun _ => true) true Tryz.f3.params.toList args.toList ds p := hA0
  rw [Tryz.params3] at hA hval
  obtain ⟨v1, vs1, d1, ds1, p1, q1, hargs, rfl, rfl, h1, r1⟩ := trodAll_cons hA
  obtain ⟨v2, vs2, d2, ds2, p2, q2, rfl, rfl, rfl, h2, r2⟩ := trodAll_cons r1
  obtain ⟨rfl, rfl, rfl⟩ := trodAll_nil r2
  obtain rfl : args = #[v1, v2] := by cases args; simp_all
  obtain ⟨rfl, rfl⟩ := trodVars_none hV
  obtain ⟨zs, hrd⟩ := open_reB (hval 0 22 v1 rfl rfl) h1
  obtain ⟨es, hre⟩ := open_reB (hval 1 22 v2 rfl rfl) h2
  have hlt1 : ∀ x ∈ p1, x.block < W.heap.size := fun x hx => hW'.lt x (by simp [hx])
  have hlt2 : ∀ x ∈ p2, x.block < W.heap.size := fun x hx => hW'.lt x (by simp [hx])
  clear hA0 hval0
  refine (walk_FnPrincipalGenus zs es v1 v2 W hrd hre).mono fun e W' ⟨he, hg⟩ => ?_
  subst he
  exact ⟨_, rfl, post_of_below (pa := p1 ++ (p2 ++ [])) (pv := []) hW' (fun _ _ _ => (trodAll_cons_mk (shut_bool Tryz.underlying4 _) trodAll_mk0)) (fun sp hsp => (trodAll_cons_mk (WideElems.Trod_stays laid_D3 (by kernel_rfl) (of_decide_eq_true (by kernel_rfl)) h1 (fun x hx => hg.same (hlt1 x hx)) (fun x hx => hsp x (by simp [hx]))) (trodAll_cons_mk (WideElems.Trod_stays laid_D3 (by kernel_rfl) (of_decide_eq_true (by kernel_rfl)) h2 (fun x hx => hg.same (hlt2 x hx)) (fun x hx => hsp x (by simp [hx]))) trodAll_mk0))) (fun _ _ => rfl) rfl
    hg (ok_one (by kernel_rfl) rfl (okWide_bool_mk Tryz.underlying4 _))⟩

/-- The statement. -/
theorem holds_FnPrincipalGenus : Rows.FnPrincipalGenusSaid :=
  OpenClaim.holds_of_wide 3 Tryz.f3 rfl rfl rfl rfl rfl rfl rfl ⟨rfl, rfl, rfl, rfl, rfl⟩ rfl rfl rfl rfl rfl (by kernel_rfl) Tryz.func3 (by kernel_rfl)
    (of_decide_eq_true (by kernel_rfl)) (by unfold Func.isWrapper; first | (rw [if_pos (by decide +kernel)]; kernel_rfl) | (rw [if_neg (by decide +kernel)]; exact ⟨rfl, rfl⟩))
    (fun os started H enc _ => lifted_FnPrincipalGenus os started H enc)
#print axioms holds_FnPrincipalGenus
end Go.Proofs.YteehcjjhkphdnaaGreat
