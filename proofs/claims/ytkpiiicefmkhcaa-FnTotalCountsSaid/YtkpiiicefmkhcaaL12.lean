/- FnTotalCounts returns true: for every drawn fundamental discriminant, the numbers of representations of n by all reduced forms add up to the number of automorphs times the sum of the characters of the divisors of n. Conditions: none. -/
import Derived.Test.YtkpiiicefmkhcaaCQ
import Derived.Test.YtkpiiicefmkhcaaW2
namespace Go.Proofs.Ytkpiiicefmkhcaa
open Go.RowKit Go.ChangeShapes Go.WideShapes Go.ChangeAt Go.Joins

set_option maxHeartbeats 800000 in
theorem autW2_any (d : Int) (w : World) (h : isDisc d = true) :
    Calls Try.prog 13 #[.int .i64 d] w fun e w' => e = .returned (.tuple #[.int .i64 (wD d : Nat), .bool true]) ∧ w = w' := by
  unfold wD
  by_cases h3 : d = -3
  · subst h3
    go_enter Try.func13, Try.ntmps13
    go_wp2_with (go_at_call 50; (with_reducible refine (negDisc_eq (-3) true _ h).mono ?_); rintro e v ⟨rfl, rfl⟩)
    go_ret2
    exact ⟨rfl, rfl⟩
  · rw [if_neg h3]
    have e3 : (d == -3) = false := by rw [beq_eq_false_iff_ne]; exact h3
    by_cases h4 : d = -4
    · subst h4
      go_enter Try.func13, Try.ntmps13
      go_wp2_with (go_at_call 50; (with_reducible refine (negDisc_eq (-4) true _ h).mono ?_); rintro e v ⟨rfl, rfl⟩)
      go_ret2
      exact ⟨rfl, rfl⟩
    · rw [if_neg h4]
      have e4 : (d == -4) = false := by rw [beq_eq_false_iff_ne]; exact h4
      go_enter Try.func13, Try.ntmps13
      go_wp2_with (go_at_call 50; (with_reducible refine (negDisc_eq d true _ h).mono ?_); rintro e v ⟨rfl, rfl⟩)
      go_ret2
      exact ⟨rfl, rfl⟩

theorem chr_bd (d : Int) : ∀ L : List Int, -(L.length : Int) ≤ (L.map fun x => kroN d x).sum ∧ (L.map fun x => kroN d x).sum ≤ (L.length : Int)
  | [] => by simp
  | x :: L => by
    have := chr_bd d L
    rw [List.map_cons, List.sum_cons, List.length_cons]
    rcases kro_bd 40 d x with h | h | h <;> (have e : kroN d x = kro 40 d x := rfl) <;> rw [e, h] <;> omega
theorem chr_take {d : Int} {L : List Int} {k : Nat} (h : k < L.length) : ((L.take (k + 1)).map fun x => kroN d x).sum = ((L.take k).map fun x => kroN d x).sum + kroN d L[k] := by
  rw [List.take_succ_eq_append_getElem h, List.map_append, List.sum_append]
  simp
theorem tc_law {d : Int} {n : Nat} (hc : isDisc d = true) (hk : (dsp d).2 = 1) (h1 : 1 ≤ n) (h2 : n ≤ 10000) : ((tcN d n (clsL d) : Nat) : Int) = (wD d : Nat) * XS (fun k => kroN d k) n := by
  have hc' := hc
  unfold isDisc at hc'
  simp only [Bool.and_eq_true, decide_eq_true_eq] at hc'
  have hs : d % 2 = 0 ∨ d % 2 = 1 := by omega
  refine total_count (s := d % 2) (c := (d % 2 - d) / 4) (dsc_of hc) hs ?_ (funD_of hc hk) h1 h2
  rcases hs with e | e <;> rw [e] <;> omega

set_option maxRecDepth 100000 in
set_option maxHeartbeats 25600000 in
theorem walk_FnTotalCounts (zs es : List Int) (v u : Value) (w : World) (hz : ReB zs v w) (he : ReB es u w) :
    Calls Try.prog 3 #[v, u] w fun e w' => e = .returned (.bool true) ∧ Below w.heap.size w w' := by
  have HZ := Lib.hid hz
  obtain ⟨A, c1', rfl⟩ := hz.shape
  obtain ⟨A2, c2', rfl⟩ := he.shape
  clear hz he
  by_cases hbig : zs.length ≤ 1048576 ∧ es.length ≤ 1048576 - zs.length
  · have Hb := Lib.hid (fun w => big_no A A2 zs.length es.length c1' c2' w hbig.1 hbig.2)
    have HR := Lib.hid (HZ.out.rd hbig.1)
    clear HZ hbig
    go_enter Try.func3, Try.ntmps3
    go_wp2_with (go_at_call 8; (with_reducible refine (Hb.out _).mono ?_); rintro e v ⟨rfl, rfl⟩)
    refine (drawTC_any zs _ _ _ HR.out (Nat.le_refl _)).mono ?_
    rintro e v1 ⟨d, p, rfl, hDr, hb1⟩
    have hz1 := hb1.size
    obtain ⟨s, ok, hT⟩ := tcR_ex d p
    have HI := Lib.hid (fun w => implTC_any d p s ok w hT)
    have HS := Lib.hid (fun w => specTC_any d p s ok w hT)
    have HF := Lib.hid (fun w => isFun_any d w hDr)
    have HT := Lib.hid hT
    clear hT hDr HR Hb
    go_wp2_with fail
    refine (HI.out _).mono ?_
    rintro e v2 ⟨rfl, hc2⟩
    have hz2 := hc2.size
    (try simp at hz2)
    have hb2 : Below w.heap.size w v2 := (by repeat (first | with_reducible exact Below.refl _ _ | with_reducible assumption | with_reducible apply Below.drew | with_reducible apply below_drewN | (with_reducible apply below_setp; (first | omega | (simp <;> omega))) | (with_reducible apply below_allocp; (first | omega | (simp <;> omega))) | (with_reducible refine below_viap (by assumption) ?_ ?_; (first | omega | (simp <;> omega)))))
    go_wp2_with fail
    refine (HS.out _).mono ?_
    rintro e v3 ⟨rfl, hc3⟩
    have hz3 := hc3.size
    (try simp at hz3)
    have hb3 : Below w.heap.size w v3 := (by repeat (first | with_reducible exact Below.refl _ _ | with_reducible assumption | with_reducible apply Below.drew | with_reducible apply below_drewN | (with_reducible apply below_setp; (first | omega | (simp <;> omega))) | (with_reducible apply below_allocp; (first | omega | (simp <;> omega))) | (with_reducible refine below_viap (by assumption) ?_ ?_; (first | omega | (simp <;> omega)))))
    cases ok with
    | false =>
      clear HT
      generalize fuB d = q1 at *
      generalize dcB d = q2 at *
      go_wp2_with (go_at_call 12; (with_reducible refine (HF.out _).mono ?_); rintro e v4 ⟨rfl, hc4⟩; have hz4 := hc4.size; have hb4 : Below w.heap.size w v4 := (by repeat (first | with_reducible exact Below.refl _ _ | with_reducible assumption | with_reducible apply Below.drew | with_reducible apply below_drewN | (with_reducible apply below_setp; (first | omega | (simp <;> omega))) | (with_reducible apply below_allocp; (first | omega | (simp <;> omega))) | (with_reducible refine below_viap (by assumption) ?_ ?_; (first | omega | (simp <;> omega))))))
      go_ret
      exact ⟨rfl, (by repeat (first | with_reducible exact Below.refl _ _ | with_reducible assumption | with_reducible apply Below.drew | with_reducible apply below_drewN | (with_reducible apply below_setp; (first | omega | (simp <;> omega))) | (with_reducible apply below_allocp; (first | omega | (simp <;> omega))) | (with_reducible refine below_viap (by assumption) ?_ ?_; (first | omega | (simp <;> omega)))))⟩
    | true =>
      have hT3 : isDisc d = true ∧ shwB p = true ∧ s = (tcN d p (clsL d) : Nat) := by
        rcases HT.out with ⟨_, _, h⟩ | ⟨_, _, _, h⟩ | ⟨h1, h2, h3, _⟩
        · cases h
        · cases h
        · exact ⟨h1, h2, h3⟩
      obtain ⟨hdc, hsh, hsE⟩ := hT3
      have hdcB := dcB_disc hdc
      have hfE : fuB d = decide ((dsp d).2 = 1) := by unfold fuB; rw [hdcB]; rfl
      rw [hdcB, hfE] at HF
      clear HT hdcB hfE
      by_cases hk : (dsp d).2 = 1
      · rw [decide_eq_true hk] at HF
        have hpn : 1 ≤ p ∧ p ≤ 10000 := by unfold shwB at hsh; simpa using hsh
        obtain ⟨n, rfl⟩ : ∃ n : Nat, p = (n : Int) := ⟨p.toNat, by omega⟩
        have h1n : 1 ≤ n := by omega
        have h2n : n ≤ 10000 := by omega
        have hlaw := tc_law hdc hk h1n h2n
        have HW := Lib.hid (fun w => autW2_any d w hdc)
        have HV := Lib.hid (fun w => implDvs_any n w h1n h2n)
        have HC := Lib.hid (fun k (h1 : 1 ≤ k) (h2 : k ≤ 10000) w => chrOf_any d k w hdc h1 h2)
        rw [← hsE] at hlaw
        have HLaw := Lib.hid hlaw
        have hwd : (wD d : Int) ≤ 6 := by unfold wD; split <;> (try split) <;> omega
        have hwd0 : 0 ≤ (wD d : Int) := by omega
        have HN1 := Lib.hid h1n
        clear hlaw hdc hsh hsE hk hpn
        generalize ((wD d : Nat) : Int) = wd at *
        go_wp2_with (first | (go_at_call 12; (with_reducible refine (HF.out _).mono ?_); rintro e v4 ⟨rfl, hc4⟩; have hz4 := hc4.size; have hb4 : Below w.heap.size w v4 := (by repeat (first | with_reducible exact Below.refl _ _ | with_reducible assumption | with_reducible apply Below.drew | with_reducible apply below_drewN | (with_reducible apply below_setp; (first | omega | (simp <;> omega))) | (with_reducible apply below_allocp; (first | omega | (simp <;> omega))) | (with_reducible refine below_viap (by assumption) ?_ ?_; (first | omega | (simp <;> omega)))))) | (go_at_call 13; (with_reducible refine (HW.out _).mono ?_); rintro e v ⟨rfl, rfl⟩) | (go_at_call 14; (with_reducible refine (HV.out _).mono ?_); rintro e v5 ⟨L, vl, hL1, hL2, hL3, rfl, hol, hc5⟩; have hz5 := hc5.size; have hb5 : Below w.heap.size w v5 := (by repeat (first | with_reducible exact Below.refl _ _ | with_reducible assumption | with_reducible apply Below.drew | with_reducible apply below_drewN | (with_reducible apply below_setp; (first | omega | (simp <;> omega))) | (with_reducible apply below_allocp; (first | omega | (simp <;> omega))) | (with_reducible refine below_viap (by assumption) ?_ ?_; (first | omega | (simp <;> omega))))); obtain ⟨bl, cl, rfl⟩ := own_shape hol))
        have hX := chr_sum HN1.out hL1 hL2 (fun x => kroN d x)
        have HX : Hid (s = wd * (L.map fun x => kroN d x).sum) := Lib.hid (by rw [hX]; exact HLaw.out)
        have HM := Lib.hid hL2
        have HO := Lib.hid hol
        obtain ⟨N, hN⟩ : ∃ N, L.length = N := ⟨_, rfl⟩
        have HN := Lib.hid hN
        rw [hN] at hL3 ⊢
        clear hX hL1 hL2 hol hN HLaw HW HV HF HI HS
        go_loopw [17, 83] (fun v17 v83 wr => ∃ k : Nat, v83 = .int .i64 k ∧ k ≤ N ∧ v17 = .int .i64 (((L.take k).map fun x => kroN d x).sum) ∧ Below v5.heap.size v5 wr) (fun _ v83 _ => N - (intOf v83).toNat)
        case atStart => exact ⟨0, rfl, Nat.zero_le _, rfl, Below.refl _ _⟩
        case round =>
          obtain ⟨k, rfl, hk, rfl, hbel⟩ := hrel
          have hzr := hbel.size
          by_cases hlt : k < N
          · have hkL : k < L.length := by rw [HN.out]; exact hlt
            obtain ⟨g, rfl, lg, d1⟩ := own_elemI (own_call hbel HO.out) hkL
            obtain ⟨i, hi1, hi2, hi3⟩ := (HM.out _).1 (List.getElem_mem hkL)
            have hin : i ≤ n := Nat.le_of_dvd (by omega) hi3
            have HCk := Lib.hid (fun w => HC.out L[k] (by omega) (by omega) w)
            have hbd := chr_bd d (L.take k)
            have hlt2 : (L.take k).length ≤ 30000 := by rw [List.length_take]; omega
            have HX2 := Lib.hid (chr_take (d := d) hkL)
            have hk3 : kroN d L[k] = 0 ∨ kroN d L[k] = 1 ∨ kroN d L[k] = -1 := kro_bd 40 d L[k]
            generalize kroN d L[k] = c at *
            generalize ((L.take k).map fun x => kroN d x).sum = S at *
            generalize L[k] = x at *
            have hc1 : -1 ≤ c := by omega
            have hc2 : c ≤ 1 := by omega
            have hS1 : -30000 ≤ S := by omega
            have hS2 : S ≤ 30000 := by omega
            clear hi1 hi2 hi3 hin hbd hk3 hlt2
            have kI : (k : Int) < (N : Int) := by omega
            go_wp2_with (go_at_call 15; (with_reducible refine (HCk.out _).mono ?_); rintro e v6 ⟨rfl, hc6⟩; have hz6 := hc6.size)
            go_roundw
            case rel => exact ⟨k + 1, by go_num, hlt, by rw [HX2.out], (by repeat (first | with_reducible exact Below.refl _ _ | with_reducible assumption | with_reducible apply Below.drew | with_reducible apply below_drewN | (with_reducible apply below_setp; (first | omega | (simp <;> omega))) | (with_reducible apply below_allocp; (first | omega | (simp <;> omega))) | (with_reducible refine below_viap (by assumption) ?_ ?_; (first | omega | (simp <;> omega)))))⟩
            case measure => simp [intOf]; omega
          · obtain rfl : k = N := by omega
            have hkn : ¬ (k : Int) < (k : Int) := by omega
            have hbd := chr_bd d L
            rw [List.take_of_length_le (by rw [HN.out]; exact Nat.le_refl _)]
            rw [HN.out] at hbd
            have e9 : (s == wd * (L.map fun x => kroN d x).sum) = true := by rw [← HX.out]; simp
            generalize (L.map fun x => kroN d x).sum = S at *
            have hb1 : -200000 ≤ wd * S := by have := (mul_bd (a := wd) (x := S) (A := 6) (X := 30000) (by omega) (by omega) (by omega) (by omega)).1; omega
            have hb2 : wd * S ≤ 200000 := by have := (mul_bd (a := wd) (x := S) (A := 6) (X := 30000) (by omega) (by omega) (by omega) (by omega)).2; omega
            have hw9 : wrap64 (wd * S) = wd * S := IntWalk.wrap64_in _ (by omega)
            clear hbd HX
            go_wp2
            go_ret
            exact ⟨rfl, (by repeat (first | with_reducible exact Below.refl _ _ | with_reducible assumption | with_reducible apply Below.drew | with_reducible apply below_drewN | (with_reducible apply below_setp; (first | omega | (simp <;> omega))) | (with_reducible apply below_allocp; (first | omega | (simp <;> omega))) | (with_reducible refine below_viap (by assumption) ?_ ?_; (first | omega | (simp <;> omega)))))⟩
      · rw [decide_eq_false hk] at HF
        clear hdc hsh hsE hk
        go_wp2_with (go_at_call 12; (with_reducible refine (HF.out _).mono ?_); rintro e v4 ⟨rfl, hc4⟩; have hz4 := hc4.size; have hb4 : Below w.heap.size w v4 := (by repeat (first | with_reducible exact Below.refl _ _ | with_reducible assumption | with_reducible apply Below.drew | with_reducible apply below_drewN | (with_reducible apply below_setp; (first | omega | (simp <;> omega))) | (with_reducible apply below_allocp; (first | omega | (simp <;> omega))) | (with_reducible refine below_viap (by assumption) ?_ ?_; (first | omega | (simp <;> omega))))))
        go_ret
        exact ⟨rfl, (by repeat (first | with_reducible exact Below.refl _ _ | with_reducible assumption | with_reducible apply Below.drew | with_reducible apply below_drewN | (with_reducible apply below_setp; (first | omega | (simp <;> omega))) | (with_reducible apply below_allocp; (first | omega | (simp <;> omega))) | (with_reducible refine below_viap (by assumption) ?_ ?_; (first | omega | (simp <;> omega)))))⟩
  · have Hb := Lib.hid (fun w => big_yes A A2 zs.length es.length c1' c2' w hbig)
    clear HZ hbig
    go_enter Try.func3, Try.ntmps3
    go_wp2_with (go_at_call 8; (with_reducible refine (Hb.out _).mono ?_); rintro e v ⟨rfl, rfl⟩)
    go_ret
    exact ⟨rfl, (by repeat (first | with_reducible exact Below.refl _ _ | with_reducible assumption | with_reducible apply Below.drew | with_reducible apply below_drewN | (with_reducible apply below_setp; (first | omega | (simp <;> omega))) | (with_reducible apply below_allocp; (first | omega | (simp <;> omega))) | (with_reducible refine below_viap (by assumption) ?_ ?_; (first | omega | (simp <;> omega)))))⟩
theorem own_FnTotalCounts : ownKnob Try.prog.godebug = none := by kernel_rfl

set_option maxRecDepth 100000 in
theorem lifted_FnTotalCounts (os : Os) (started : os.Started) (H : Type) (enc : TypeId × Value → H) :
    ReturnsInHanded {} Try.checked os 3 .any (Rows.fnTotalCountsSpec.pre6 enc Try.prog Try.f3 Rows.fnTotalCountsRow.domain false) (Rows.fnTotalCountsSpec.post enc Try.prog Try.f3 false true false false) := by
  refine returnsInHanded_of_change (C := Try.checked) own_FnTotalCounts started (by kernel_rfl) Try.func3
    (ChangeSpec.witness6 (enc := enc) (C := Try.checked) false ⟨#[], #[.slice none 0 0, .slice none 0 0], []⟩ 8 (by kernel_rfl) (by kernel_rfl) (by kernel_rfl) (by kernel_rfl)) ?_
  intro W base args ds gs before hval0 hW hcnd _
  have hval : ∀ (j : Nat) t v, Try.f3.params[j]? = some t → args[j]? = some v → Value.okWide Try.prog W .any base t v := hval0
  have hW' := hW
  obtain ⟨p, q, hA0, hV, rfl, hfz, hnd⟩ := hW
  have hA : DataW.TrodAll enc Try.prog W 0 (fun _ => true) true Try.f3.params.toList args.toList ds p := hA0
  rw [Try.params3] at hA hval
  obtain ⟨v1, vs1, d1, ds1, p1, q1, hargs, rfl, rfl, h1, r1⟩ := trodAll_cons hA
  obtain ⟨v2, vs2, d2, ds2, p2, q2, rfl, rfl, rfl, h2, r2⟩ := trodAll_cons r1
  obtain ⟨rfl, rfl, rfl⟩ := trodAll_nil r2
  obtain rfl : args = #[v1, v2] := by cases args; simp_all
  obtain ⟨rfl, rfl⟩ := trodVars_none hV
  obtain ⟨zs, hrd⟩ := open_reB (hval 0 22 v1 rfl rfl) h1
  obtain ⟨es, hre⟩ := open_reB (hval 1 22 v2 rfl rfl) h2
  have hlt1 : ∀ x ∈ p1, x.block < W.heap.size := fun x hx => hW'.lt x (by simp [hx])
  have hlt2 : ∀ x ∈ p2, x.block < W.heap.size := fun x hx => hW'.lt x (by simp [hx])
  clear hA0 hval0
  refine (walk_FnTotalCounts zs es v1 v2 W hrd hre).mono fun e W' ⟨he, hg⟩ => ?_
  subst he
  exact ⟨_, rfl, post_of_below (pa := p1 ++ (p2 ++ [])) (pv := []) hW' (fun _ _ _ => (trodAll_cons_mk (shut_bool Try.underlying4 _) trodAll_mk0)) (fun sp hsp => (trodAll_cons_mk (WideElems.Trod_stays laid_D3 (by kernel_rfl) (of_decide_eq_true (by kernel_rfl)) h1 (fun x hx => hg.same (hlt1 x hx)) (fun x hx => hsp x (by simp [hx]))) (trodAll_cons_mk (WideElems.Trod_stays laid_D3 (by kernel_rfl) (of_decide_eq_true (by kernel_rfl)) h2 (fun x hx => hg.same (hlt2 x hx)) (fun x hx => hsp x (by simp [hx]))) trodAll_mk0))) (fun _ _ => rfl) rfl
    hg (ok_one (by kernel_rfl) rfl (okWide_bool_mk Try.underlying4 _))⟩

theorem and2_FnTotalCounts {a b : Bool} (h : a = true) (k : b = true) : (a && b) = true := by rw [h, k]; rfl
set_option maxRecDepth 100000 in
theorem cl0_FnTotalCounts : (Rows.fnTotalCountsRow.wf (OpenSpec.ofChange Rows.fnTotalCountsSpec)) = true := by kernel_rfl
set_option maxRecDepth 100000 in
theorem cl1_FnTotalCounts : (laidOutB Try.pinned.checked.prog) = true := by kernel_rfl
set_option maxRecDepth 100000 in
theorem cl2_FnTotalCounts : (mapsRowed Try.pinned.checked.prog) = true := by kernel_rfl
set_option maxRecDepth 100000 in
theorem cl3_FnTotalCounts : (Try.f3.params.all (Try.pinned.checked.prog.readableRec ·)) = true := by kernel_rfl
set_option maxRecDepth 100000 in
theorem cl4_FnTotalCounts : (namedTie Try.pinned.checked.prog Rows.fnTotalCountsRow.named Rows.fnTotalCountsSpec.vars) = true := by kernel_rfl
set_option maxRecDepth 100000 in
theorem cl5_FnTotalCounts : (Rows.fnTotalCountsRow.stops == []) = true := by kernel_rfl
set_option maxRecDepth 100000 in
theorem cl6_FnTotalCounts : (Try.pinned.checked.prog.stops == []) = true := by kernel_rfl
set_option maxRecDepth 100000 in
theorem cl7_FnTotalCounts : (Rows.fnTotalCountsRow.knobs == []) = true := by kernel_rfl
set_option maxRecDepth 100000 in
theorem cl8_FnTotalCounts : (Try.pinned.checked.prog.stopKnobs == []) = true := by kernel_rfl
set_option maxRecDepth 100000 in
theorem cl9_FnTotalCounts : (Rows.fnTotalCountsRow.inPlace == Try.pinned.checked.prog.inPlace 3) = true := by kernel_rfl
set_option maxRecDepth 100000 in
theorem cl10_FnTotalCounts : (Rows.fnTotalCountsRow.unfollowed == Try.pinned.checked.prog.unfollowed 3) = true := by kernel_rfl
set_option maxRecDepth 100000 in
theorem cl11_FnTotalCounts : (Rows.fnTotalCountsRow.recurses == Try.pinned.checked.prog.recurses 3) = true := by kernel_rfl
set_option maxRecDepth 100000 in
theorem cl12_FnTotalCounts : (Rows.fnTotalCountsRow.named == Try.pinned.checked.prog.varsNamed 3) = true := by kernel_rfl
set_option maxRecDepth 100000 in
theorem cl13_FnTotalCounts : (Rows.fnTotalCountsRow.maps == (Try.f3.params.toList ++ Rows.fnTotalCountsSpec.plain.varTypes Try.pinned.checked.prog).any (Try.pinned.checked.prog.mapsRec ·)) = true := by kernel_rfl
set_option maxRecDepth 100000 in
theorem cl14_FnTotalCounts : (Rows.fnTotalCountsRow.ifaces == (Try.f3.params.toList ++ Rows.fnTotalCountsSpec.plain.varTypes Try.pinned.checked.prog).any (Try.pinned.checked.prog.ifacesRec ·)) = true := by kernel_rfl
set_option maxRecDepth 100000 in
theorem cl15_FnTotalCounts : (Rows.fnTotalCountsRow.mapsOut == Try.pinned.checked.prog.mapsAmong Try.f3.resultTypes.toList) = true := by kernel_rfl
set_option maxRecDepth 100000 in
theorem cl16_FnTotalCounts : (Rows.fnTotalCountsRow.loops == (Try.f3.params.toList ++ Rows.fnTotalCountsSpec.plain.varTypes Try.pinned.checked.prog).any (Try.pinned.checked.prog.loopsFrom ·)) = true := by kernel_rfl
set_option maxRecDepth 100000 in
theorem cl17_FnTotalCounts : (Rows.fnTotalCountsRow.wideKeys == (Try.f3.params.toList ++ Rows.fnTotalCountsSpec.plain.varTypes Try.pinned.checked.prog ++ Try.f3.resultTypes.toList).any (Try.pinned.checked.prog.wideKeysFrom ·)) = true := by kernel_rfl
set_option maxRecDepth 100000 in
theorem cl18_FnTotalCounts : (Rows.fnTotalCountsSpec.vars.all (Try.pinned.checked.prog.varReadable ·)) = true := by kernel_rfl
set_option maxRecDepth 100000 in
theorem cl19_FnTotalCounts : (Try.f3.resultTypes.all (fun t => Try.pinned.checked.prog.readableRec t && decide (t < Try.pinned.checked.prog.types.size))) = true := by kernel_rfl
set_option maxRecDepth 100000 in
theorem cl20_FnTotalCounts : (Rows.fnTotalCountsRow.ifacesOut == Try.f3.resultTypes.toList.any (Try.pinned.checked.prog.ifacesRec ·)) = true := by kernel_rfl
set_option maxRecDepth 100000 in
theorem cl21_FnTotalCounts : (Rows.fnTotalCountsRow.loopsOut == Try.f3.resultTypes.toList.any (Try.pinned.checked.prog.loopsFrom ·)) = true := by kernel_rfl
set_option maxRecDepth 100000 in
theorem cl22_FnTotalCounts : (Rows.fnTotalCountsRow.plainKeys == Try.pinned.checked.prog.plainKeys) = true := by kernel_rfl
set_option maxRecDepth 100000 in
theorem cl23_FnTotalCounts : (Rows.fnTotalCountsRow.shortTexts.isNone) = true := by kernel_rfl
set_option maxRecDepth 100000 in
theorem cl24_FnTotalCounts : (Try.pinned.checked.prog.stopsHeard) = true := by kernel_rfl
set_option maxRecDepth 100000 in
theorem cl25_FnTotalCounts : (Try.pinned.checked.prog.mayEnter) = true := by kernel_rfl
set_option maxRecDepth 100000 in
theorem cl26_FnTotalCounts : (Rows.fnTotalCountsRow.lifted == Try.pinned.checked.prog.liftsFinal) = true := by kernel_rfl
set_option maxRecDepth 100000 in
theorem cl27_FnTotalCounts : (Try.pinned.checked.prog.make == some Rows.fnTotalCountsRow.make) = true := by kernel_rfl
set_option maxRecDepth 100000 in
theorem cl28_FnTotalCounts : (Rows.fnTotalCountsRow.kinds == (if Rows.fnTotalCountsRow.domain.isEmpty then [] else Try.f3.params.toList.map fun t => match Try.pinned.checked.prog.underlying t with | some (.int k) => some k | _ => none)) = true := by kernel_rfl
set_option maxRecDepth 100000 in
theorem cl29_FnTotalCounts : (Rows.fnTotalCountsRow.pinned == Rows.fnTotalCountsRow.pinnedBy) = true := by kernel_rfl
set_option maxRecDepth 100000 in
theorem cl30_FnTotalCounts : (Rows.fnTotalCountsRow.veiled == (Try.f3.params.toList ++ Rows.fnTotalCountsSpec.plain.varTypes Try.pinned.checked.prog ++ Try.f3.resultTypes.toList).any (Try.pinned.checked.prog.veiledRec ·)) = true := by kernel_rfl
set_option maxRecDepth 100000 in
theorem cl31_FnTotalCounts : (Rows.fnTotalCountsRow.veiledFits Try.pinned.checked.prog Try.f3.params.toList (Try.f3.params.toList ++ Rows.fnTotalCountsSpec.plain.varTypes Try.pinned.checked.prog ++ Try.f3.resultTypes.toList)) = true := by kernel_rfl
set_option maxRecDepth 100000 in
theorem closed_FnTotalCounts : joinedFacts Try.pinned.checked.prog 3 Try.f3 Rows.fnTotalCountsSpec Rows.fnTotalCountsRow = true := (and2_FnTotalCounts (and2_FnTotalCounts (and2_FnTotalCounts (and2_FnTotalCounts (and2_FnTotalCounts (and2_FnTotalCounts (and2_FnTotalCounts (and2_FnTotalCounts (and2_FnTotalCounts (and2_FnTotalCounts (and2_FnTotalCounts (and2_FnTotalCounts (and2_FnTotalCounts (and2_FnTotalCounts (and2_FnTotalCounts (and2_FnTotalCounts (and2_FnTotalCounts (and2_FnTotalCounts (and2_FnTotalCounts (and2_FnTotalCounts (and2_FnTotalCounts (and2_FnTotalCounts (and2_FnTotalCounts (and2_FnTotalCounts (and2_FnTotalCounts (and2_FnTotalCounts (and2_FnTotalCounts (and2_FnTotalCounts (and2_FnTotalCounts (and2_FnTotalCounts (and2_FnTotalCounts cl0_FnTotalCounts cl1_FnTotalCounts) cl2_FnTotalCounts) cl3_FnTotalCounts) cl4_FnTotalCounts) cl5_FnTotalCounts) cl6_FnTotalCounts) cl7_FnTotalCounts) cl8_FnTotalCounts) cl9_FnTotalCounts) cl10_FnTotalCounts) cl11_FnTotalCounts) cl12_FnTotalCounts) cl13_FnTotalCounts) cl14_FnTotalCounts) cl15_FnTotalCounts) cl16_FnTotalCounts) cl17_FnTotalCounts) cl18_FnTotalCounts) cl19_FnTotalCounts) cl20_FnTotalCounts) cl21_FnTotalCounts) cl22_FnTotalCounts) cl23_FnTotalCounts) cl24_FnTotalCounts) cl25_FnTotalCounts) cl26_FnTotalCounts) cl27_FnTotalCounts) cl28_FnTotalCounts) cl29_FnTotalCounts) cl30_FnTotalCounts) cl31_FnTotalCounts)


/-- The statement. -/
theorem holds_FnTotalCounts : Rows.FnTotalCountsSaid :=
  OpenClaim.holds_of_wide 3 Try.f3 rfl rfl rfl rfl rfl rfl rfl ⟨rfl, rfl, rfl, rfl, rfl⟩ rfl rfl rfl rfl rfl (by kernel_rfl) Try.func3 closed_FnTotalCounts
    (of_decide_eq_true (by kernel_rfl)) (by unfold Func.isWrapper; first | (rw [if_pos (by decide +kernel)]; kernel_rfl) | (rw [if_neg (by decide +kernel)]; exact ⟨rfl, rfl⟩))
    (fun os started H enc _ => lifted_FnTotalCounts os started H enc)
#print axioms holds_FnTotalCounts
end Go.Proofs.Ytkpiiicefmkhcaa
