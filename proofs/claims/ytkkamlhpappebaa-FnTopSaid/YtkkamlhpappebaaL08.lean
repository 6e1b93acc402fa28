/- FnTop returns true: for every drawn discriminant, the number of reduced forms is the product of the invariant factors, the number of genera times the size of the principal one, and the class number that follows from the conductor. Conditions: none. -/
import Derived.Test.YtkkamlhpappebaaDX
import Derived.Test.YtkkamlhpappebaaDA
import Derived.Test.YtkkamlhpappebaaGX
import Derived.Test.YtkkamlhpappebaaQX
import Derived.Test.YtkkamlhpappebaaSI
import Derived.Test.YtkkamlhpappebaaPR
import Derived.Test.YtkkamlhpappebaaCJ
import Derived.Test.YtkkamlhpappebaaW2
namespace Go.Proofs.Ytkkamlhpappebaa
open Go.RowKit Go.ChangeShapes Go.WideShapes Go.ChangeAt Go.Joins

set_option maxRecDepth 100000 in
set_option maxHeartbeats 6400000 in
theorem walk_FnTop (zs es : List Int) (v u : Value) (w : World) (hz : ReB zs v w) (he : ReB es u w) :
    Calls Try.prog 3 #[v, u] w fun e w' => e = .returned (.bool true) ∧ Below w.heap.size w w' := by
  have HZ := Lib.hid hz
  obtain ⟨A, c, rfl⟩ := hz.shape
  obtain ⟨A2, c2, rfl⟩ := he.shape
  clear hz he
  by_cases hbig : zs.length ≤ 1048576 ∧ es.length ≤ 1048576 - zs.length
  · have Hb := Lib.hid (fun w => big_no A A2 zs.length es.length c c2 w hbig.1 hbig.2)
    have HR := Lib.hid (HZ.out.rd hbig.1)
    clear HZ hbig
    go_enter Try.func3, Try.ntmps3
    go_wp2_with (go_at_call 10; (with_reducible refine (Hb.out _).mono ?_); rintro e v ⟨rfl, rfl⟩)
    refine (drawClassN_any zs _ _ _ HR.out (Nat.le_refl _)).mono ?_
    rintro e v1 ⟨d, rfl, hd, hb1⟩
    have hz1 := hb1.size
    clear hd
    cases hc : isDisc d with
    | false =>
      have HS := Lib.hid (fun w => specCN_any d 0 false w (.inl ⟨hc, rfl, rfl⟩))
      have HI := Lib.hid (fun w => implCN_any d 0 false w (.inl ⟨hc, rfl, rfl⟩))
      clear hc
      go_wp2_with fail
      refine (HI.out _).mono ?_
      rintro e v2 ⟨rfl, hc2⟩
      have hz2 := hc2.size
      (try simp at hz2)
      have hb2 : Below w.heap.size w v2 := (by repeat (first | with_reducible exact Below.refl _ _ | with_reducible assumption | with_reducible apply Below.drew | with_reducible apply below_drewN | (with_reducible apply below_setp; (first | omega | (simp <;> omega))) | (with_reducible apply below_allocp; (first | omega | (simp <;> omega))) | (with_reducible refine below_viap (by assumption) ?_ ?_; (first | omega | (simp <;> omega)))))
      go_wp2_with fail
      refine (HS.out _).mono ?_
      rintro e v3 ⟨rfl, hc3⟩
      have hz3 := hc3.size
      (try simp at hz3)
      have hb3 : Below w.heap.size w v3 := (by repeat (first | with_reducible exact Below.refl _ _ | with_reducible assumption | with_reducible apply Below.drew | with_reducible apply below_drewN | (with_reducible apply below_setp; (first | omega | (simp <;> omega))) | (with_reducible apply below_allocp; (first | omega | (simp <;> omega))) | (with_reducible refine below_viap (by assumption) ?_ ?_; (first | omega | (simp <;> omega)))))
      go_wp2
      go_ret
      exact ⟨rfl, (by repeat (first | with_reducible exact Below.refl _ _ | with_reducible assumption | with_reducible apply Below.drew | with_reducible apply below_drewN | (with_reducible apply below_setp; (first | omega | (simp <;> omega))) | (with_reducible apply below_allocp; (first | omega | (simp <;> omega))) | (with_reducible refine below_viap (by assumption) ?_ ?_; (first | omega | (simp <;> omega)))))⟩
    | true =>
      have D := dsc_of hc
      have HS := Lib.hid (fun w => specCN_any d (clsL d).length true w (.inr ⟨hc, rfl, rfl⟩))
      have HI := Lib.hid (fun w => implCN_any d (clsL d).length true w (.inr ⟨hc, rfl, rfl⟩))
      have HF := Lib.hid (fun w => implRF_any d (clsL d) true w (.inr ⟨hc, rfl, rfl⟩))
      have HV := Lib.hid (fun w => implIv_any d (invL d).reverse true w (.inr ⟨hc, rfl, rfl⟩))
      have HG := Lib.hid (fun w => implGC_any d (amL d).length true w (.inr ⟨hc, by rw [gen_count D], rfl⟩))
      have HP := Lib.hid (fun w => implPG_any d (pgL d) true w (.inr ⟨hc, rfl, rfl⟩))
      have HK := Lib.hid (fun w => byCond_any d w hc)
      have hpd := inv_prod D
      have hm := clsL_len d
      have hpg := h_pg D
      have hge : ∀ x ∈ (invL d).reverse, 2 ≤ x ∧ x ≤ 1640 := fun x hx => by
        have h1 := inv_ge D x (List.mem_reverse.1 hx)
        have h2 := inv_le D x (List.mem_reverse.1 hx)
        omega
      have hl20 : (invL d).reverse.length ≤ 20 := by rw [List.length_reverse]; exact inv_len20 D
      have HPp := Lib.hid (fun (v : Value) (B : Nat) (w : World) h => pProduct_any (invL d).reverse v B w hge (by omega) hl20 h)
      rw [hpd] at HPp
      have hmul : (((amL d).length : Nat) : Int) * (((pgL d).length : Nat) : Int) = ((clsL d).length : Int) := by rw [hpg, Int.natCast_mul, Int.mul_comm]
      have hw : wrap64 ((((amL d).length : Nat) : Int) * (((pgL d).length : Nat) : Int)) = ((clsL d).length : Int) := by rw [hmul]; exact IntWalk.wrap64_in _ (by omega)
      generalize amL d = AL at *
      generalize pgL d = PL at *
      generalize (invL d).reverse = VL at *
      generalize clsL d = CL at *
      clear hc D hge hpd hpg hmul
      go_wp2_with fail
      refine (HI.out _).mono ?_
      rintro e v2 ⟨rfl, hc2⟩
      have hz2 := hc2.size
      (try simp at hz2)
      have hb2 : Below w.heap.size w v2 := (by repeat (first | with_reducible exact Below.refl _ _ | with_reducible assumption | with_reducible apply Below.drew | with_reducible apply below_drewN | (with_reducible apply below_setp; (first | omega | (simp <;> omega))) | (with_reducible apply below_allocp; (first | omega | (simp <;> omega))) | (with_reducible refine below_viap (by assumption) ?_ ?_; (first | omega | (simp <;> omega)))))
      go_wp2_with fail
      refine (HS.out _).mono ?_
      rintro e v3 ⟨rfl, hc3⟩
      have hz3 := hc3.size
      (try simp at hz3)
      have hb3 : Below w.heap.size w v3 := (by repeat (first | with_reducible exact Below.refl _ _ | with_reducible assumption | with_reducible apply Below.drew | with_reducible apply below_drewN | (with_reducible apply below_setp; (first | omega | (simp <;> omega))) | (with_reducible apply below_allocp; (first | omega | (simp <;> omega))) | (with_reducible refine below_viap (by assumption) ?_ ?_; (first | omega | (simp <;> omega)))))
      go_wp2_with fail
      refine (HF.out _).mono ?_
      rintro e v4 ⟨vl, rfl, hl4, hc4⟩
      have hz4 := hc4.size
      (try simp at hz4)
      have hb4 : Below w.heap.size w v4 := (by repeat (first | with_reducible exact Below.refl _ _ | with_reducible assumption | with_reducible apply Below.drew | with_reducible apply below_drewN | (with_reducible apply below_setp; (first | omega | (simp <;> omega))) | (with_reducible apply below_allocp; (first | omega | (simp <;> omega))) | (with_reducible refine below_viap (by assumption) ?_ ?_; (first | omega | (simp <;> omega)))))
      obtain ⟨bl, cl, rfl⟩ := own_shape hl4
      go_wp2_with fail
      refine (HV.out _).mono ?_
      rintro e v5 ⟨vn, rfl, hn5, hc5⟩
      have hz5 := hc5.size
      (try simp at hz5)
      have hl5 := own_call hc5 hl4
      have hb5 : Below w.heap.size w v5 := (by repeat (first | with_reducible exact Below.refl _ _ | with_reducible assumption | with_reducible apply Below.drew | with_reducible apply below_drewN | (with_reducible apply below_setp; (first | omega | (simp <;> omega))) | (with_reducible apply below_allocp; (first | omega | (simp <;> omega))) | (with_reducible refine below_viap (by assumption) ?_ ?_; (first | omega | (simp <;> omega)))))
      clear hl4
      obtain ⟨bn, cn, rfl⟩ := own_shape hn5
      go_wp2_with fail
      refine (HG.out _).mono ?_
      rintro e v6 ⟨rfl, hc6⟩
      have hz6 := hc6.size
      (try simp at hz6)
      have hl6 := own_call hc6 hl5
      have hn6 := own_call hc6 hn5
      have hb6 : Below w.heap.size w v6 := (by repeat (first | with_reducible exact Below.refl _ _ | with_reducible assumption | with_reducible apply Below.drew | with_reducible apply below_drewN | (with_reducible apply below_setp; (first | omega | (simp <;> omega))) | (with_reducible apply below_allocp; (first | omega | (simp <;> omega))) | (with_reducible refine below_viap (by assumption) ?_ ?_; (first | omega | (simp <;> omega)))))
      clear hl5 hn5
      go_wp2_with fail
      refine (HP.out _).mono ?_
      rintro e v7 ⟨vp, rfl, hp7, hc7⟩
      have hz7 := hc7.size
      (try simp at hz7)
      have hl7 := own_call hc7 hl6
      have hn7 := own_call hc7 hn6
      have hb7 : Below w.heap.size w v7 := (by repeat (first | with_reducible exact Below.refl _ _ | with_reducible assumption | with_reducible apply Below.drew | with_reducible apply below_drewN | (with_reducible apply below_setp; (first | omega | (simp <;> omega))) | (with_reducible apply below_allocp; (first | omega | (simp <;> omega))) | (with_reducible refine below_viap (by assumption) ?_ ?_; (first | omega | (simp <;> omega)))))
      clear hl6 hn6
      obtain ⟨bp, cp, rfl⟩ := own_shape hp7
      go_wp2_with fail
      refine (HK.out _).mono ?_
      rintro e v8 ⟨rfl, hc8⟩
      have hz8 := hc8.size
      (try simp at hz8)
      have hl8 := own_call hc8 hl7
      have hn8 := own_call hc8 hn7
      have hp8 := own_call hc8 hp7
      have hb8 : Below w.heap.size w v8 := (by repeat (first | with_reducible exact Below.refl _ _ | with_reducible assumption | with_reducible apply Below.drew | with_reducible apply below_drewN | (with_reducible apply below_setp; (first | omega | (simp <;> omega))) | (with_reducible apply below_allocp; (first | omega | (simp <;> omega))) | (with_reducible refine below_viap (by assumption) ?_ ?_; (first | omega | (simp <;> omega)))))
      clear hl7 hn7 hp7
      go_wp2_with (go_at_call 19; refine (HPp.out _ _ _ hn8).mono ?_; rintro e v9 ⟨rfl, rfl⟩)
      go_ret
      exact ⟨rfl, (by repeat (first | with_reducible exact Below.refl _ _ | with_reducible assumption | with_reducible apply Below.drew | with_reducible apply below_drewN | (with_reducible apply below_setp; (first | omega | (simp <;> omega))) | (with_reducible apply below_allocp; (first | omega | (simp <;> omega))) | (with_reducible refine below_viap (by assumption) ?_ ?_; (first | omega | (simp <;> omega)))))⟩
  · have Hb := Lib.hid (fun w => big_yes A A2 zs.length es.length c c2 w hbig)
    clear HZ hbig
    go_enter Try.func3, Try.ntmps3
    go_wp2_with (go_at_call 10; (with_reducible refine (Hb.out _).mono ?_); rintro e v ⟨rfl, rfl⟩)
    go_ret
    exact ⟨rfl, (by repeat (first | with_reducible exact Below.refl _ _ | with_reducible assumption | with_reducible apply Below.drew | with_reducible apply below_drewN | (with_reducible apply below_setp; (first | omega | (simp <;> omega))) | (with_reducible apply below_allocp; (first | omega | (simp <;> omega))) | (with_reducible refine below_viap (by assumption) ?_ ?_; (first | omega | (simp <;> omega)))))⟩
theorem own_FnTop : ownKnob Try.prog.godebug = none := by kernel_rfl

set_option maxRecDepth 100000 in
theorem lifted_FnTop (os : Os) (started : os.Started) (H : Type) (enc : TypeId × Value → H) :
    ReturnsInHanded {} Try.checked os 3 .any (Rows.fnTopSpec.pre6 enc Try.prog Try.f3 Rows.fnTopRow.domain false) (Rows.fnTopSpec.post enc Try.prog Try.f3 false true false false) := by
  refine returnsInHanded_of_change (C := Try.checked) own_FnTop started (by kernel_rfl) Try.func3
    (ChangeSpec.witness6 (enc := enc) (C := Try.checked) false ⟨#[], #[.slice none 0 0, .slice none 0 0], []⟩ 8 (by kernel_rfl) (by kernel_rfl) (by kernel_rfl) (by kernel_rfl)) ?_
  intro W base args ds gs before hval0 hW hcnd _
  have hval : ∀ (j : Nat) t v, Try.f3.params[j]? = some t → args[j]? = some v → Value.okWide Try.prog W .any base t v := hval0
  have hW' := hW
  obtain ⟨p, q, hA0, hV, rfl, hfz, hnd⟩ := hW
  have hA : DataW.TrodAll enc Try.prog W 0 (fun _ => true) true Try.f3.params.toList args.toList ds p := hA0
  rw [Try.params3] at hA hval
  obtain ⟨v1, vs1, d1, ds1, p1, q1, hargs, rfl, rfl, h1, r1⟩ := trodAll_cons hA
  obtain ⟨v2, vs2, d2, ds2, p2, q2, rfl, rfl, rfl, h2, r2⟩ := trodAll_cons r1
  obtain ⟨rfl, rfl, rfl⟩ := trodAll_nil r2
  obtain rfl : args = #[v1, v2] := by cases args; simp_all
  obtain ⟨rfl, rfl⟩ := trodVars_none hV
  obtain ⟨zs, hrd⟩ := open_reB (hval 0 22 v1 rfl rfl) h1
  obtain ⟨es, hre⟩ := open_reB (hval 1 22 v2 rfl rfl) h2
  have hlt1 : ∀ x ∈ p1, x.block < W.heap.size := fun x hx => hW'.lt x (by simp [hx])
  have hlt2 : ∀ x ∈ p2, x.block < W.heap.size := fun x hx => hW'.lt x (by simp [hx])
  clear hA0 hval0
  refine (walk_FnTop zs es v1 v2 W hrd hre).mono fun e W' ⟨he, hg⟩ => ?_
  subst he
  exact ⟨_, rfl, post_of_below (pa := p1 ++ (p2 ++ [])) (pv := []) hW' (fun _ _ _ => (trodAll_cons_mk (shut_bool Try.underlying4 _) trodAll_mk0)) (fun sp hsp => (trodAll_cons_mk (WideElems.Trod_stays laid_D3 (by kernel_rfl) (of_decide_eq_true (by kernel_rfl)) h1 (fun x hx => hg.same (hlt1 x hx)) (fun x hx => hsp x (by simp [hx]))) (trodAll_cons_mk (WideElems.Trod_stays laid_D3 (by kernel_rfl) (of_decide_eq_true (by kernel_rfl)) h2 (fun x hx => hg.same (hlt2 x hx)) (fun x hx => hsp x (by simp [hx]))) trodAll_mk0))) (fun _ _ => rfl) rfl
    hg (ok_one (by kernel_rfl) rfl (okWide_bool_mk Try.underlying4 _))⟩

/-- The statement. -/
theorem holds_FnTop : Rows.FnTopSaid :=
  OpenClaim.holds_of_wide 3 Try.f3 rfl rfl rfl rfl rfl rfl rfl ⟨rfl, rfl, rfl, rfl, rfl⟩ rfl rfl rfl rfl rfl (by kernel_rfl) Try.func3 (by kernel_rfl)
    (of_decide_eq_true (by kernel_rfl)) (by unfold Func.isWrapper; first | (rw [if_pos (by decide +kernel)]; kernel_rfl) | (rw [if_neg (by decide +kernel)]; exact ⟨rfl, rfl⟩))
    (fun os started H enc _ => lifted_FnTop os started H enc)
#print axioms holds_FnTop
end Go.Proofs.Ytkkamlhpappebaa
