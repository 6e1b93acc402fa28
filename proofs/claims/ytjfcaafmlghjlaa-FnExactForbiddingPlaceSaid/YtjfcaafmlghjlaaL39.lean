/- For all triples of integers, the program's ForbiddingPlace returns what the reference's returns (the law FnExactForbiddingPlace returns true and leaves its argument alone). Conditions: none. -/
import Derived.Test.YtjfcaafmlghjlaaJJ
import Derived.Test.YtjfcaafmlghjlaaW2
namespace Go.Proofs.Ytjfcaafmlghjlaa
open Go.RowKit Go.ChangeShapes Go.WideShapes Go.ChangeAt Go.Joins

set_option maxRecDepth 100000 in
set_option maxHeartbeats 3200000 in
theorem walk_FnExactForbiddingPlace (a b c : Int) (w : World) (ha : W64 a) (hb : W64 b) (hc : W64 c) :
    Calls Try.prog 10 #[.agg #[.int .i64 a, .int .i64 b, .int .i64 c]] w fun e w' => e = .returned (.bool true) ∧ Below w.heap.size w w' := by
  obtain ⟨s, ok, hR⟩ := fpR_ex a b c
  have hI := Lib.hid (fun w => implFP_any a b c s ok w ha hb hc hR)
  have hS := Lib.hid (fun w => specFP_any a b c s ok w hR)
  clear ha hb hc hR
  cases ok
  all_goals
    go_enter Try.func10, Try.ntmps10
    go_wp2_with fail
    refine (toTriple_any a b c _).mono ?_
    rintro e v1 ⟨rfl, hB1⟩
    have hZ1 := hB1.size
    (try simp at hZ1)
    have hA1 : Blk v1 w.heap.size 101 #[.int .i64 a, .int .i64 b, .int .i64 c] := Blk.call (by (repeat (first | with_reducible assumption | (with_reducible apply Blk.new_at; (first | rfl | (simp; done))) | with_reducible apply Blk.store3 | with_reducible apply Blk.store4 | (with_reducible apply Blk.farp; (first | omega | (simp <;> omega))) | with_reducible apply Blk.allocp | with_reducible apply Blk.drew | with_reducible apply Blk.drewN))) hB1
    have cA1 := hA1.cell; have fA1 := hA1.frozen; have lA1 := hA1.lt
    go_wp2_with (first
      | (go_at_call 77; (with_reducible refine (hS.out _).mono ?_); rintro e v2 ⟨rfl, hB2⟩; have hZ2 := hB2.size; (try simp at hZ2); (try have zl2 : w.heap.size < v2.heap.size := by omega); (try have ze2 : w.heap.size ≤ v2.heap.size := by omega); (try have zn2 : ¬ w.heap.size = v2.heap.size := by omega); (try have zm2 : ¬ v2.heap.size = w.heap.size := by omega); have hA2 : Blk v2 (w.heap.size) 101 #[.int .i64 a, .int .i64 b, .int .i64 c] := Blk.call (by (repeat (first | with_reducible assumption | (with_reducible apply Blk.new_at; (first | rfl | (simp; done))) | with_reducible apply Blk.store3 | with_reducible apply Blk.store4 | (with_reducible apply Blk.farp; (first | omega | (simp <;> omega))) | with_reducible apply Blk.allocp | with_reducible apply Blk.drew | with_reducible apply Blk.drewN))) hB2; have cA2 := hA2.cell; have fA2 := hA2.frozen; have lA2 := hA2.lt; have mA2 := Nat.ne_of_gt lA2; have nA2 := Nat.ne_of_lt lA2)
      | (go_at_call 74; (with_reducible refine (toTriple_any a b c _).mono ?_); rintro e v3 ⟨rfl, hB3⟩; have hZ3 := hB3.size; (try simp at hZ3); (try have zl3 : w.heap.size < v3.heap.size := by omega); (try have ze3 : w.heap.size ≤ v3.heap.size := by omega); (try have zn3 : ¬ w.heap.size = v3.heap.size := by omega); (try have zm3 : ¬ v3.heap.size = w.heap.size := by omega); have hA3 : Blk v3 (w.heap.size) 101 #[.int .i64 a, .int .i64 b, .int .i64 c] := Blk.call (by (repeat (first | with_reducible assumption | (with_reducible apply Blk.new_at; (first | rfl | (simp; done))) | with_reducible apply Blk.store3 | with_reducible apply Blk.store4 | (with_reducible apply Blk.farp; (first | omega | (simp <;> omega))) | with_reducible apply Blk.allocp | with_reducible apply Blk.drew | with_reducible apply Blk.drewN))) hB3; have cA3 := hA3.cell; have fA3 := hA3.frozen; have lA3 := hA3.lt; have mA3 := Nat.ne_of_gt lA3; have nA3 := Nat.ne_of_lt lA3)
      | (go_at_call 78; (with_reducible refine (hI.out _).mono ?_); rintro e v4 ⟨rfl, hB4⟩; have hZ4 := hB4.size; (try simp at hZ4); (try have zl4 : w.heap.size < v4.heap.size := by omega); (try have ze4 : w.heap.size ≤ v4.heap.size := by omega); (try have zn4 : ¬ w.heap.size = v4.heap.size := by omega); (try have zm4 : ¬ v4.heap.size = w.heap.size := by omega); have hC4_0 := fun o => (calm_cells hB4).1 (w.heap.size) o (by first | omega | (simp <;> omega)); have hF4_0 := fun o => (calm_cells hB4).2 (w.heap.size) o (by first | omega | (simp <;> omega)); (try have hl4_0 : w.heap.size < v4.heap.size := by omega); (try have hm4_0 : ¬ w.heap.size = v4.heap.size := by omega); (try have hn4_0 : ¬ v4.heap.size = w.heap.size := by omega)))
    go_ret
    exact ⟨rfl, (by repeat (first | with_reducible exact Below.refl _ _ | with_reducible assumption | with_reducible apply Below.drew | with_reducible apply below_drewN | (with_reducible apply below_setp; (first | omega | (simp <;> omega))) | (with_reducible apply below_allocp; (first | omega | (simp <;> omega))) | (with_reducible refine below_viap (by assumption) ?_ ?_; (first | omega | (simp <;> omega)))))⟩

theorem own_FnExactForbiddingPlace : ownKnob Try.prog.godebug = none := by kernel_rfl

set_option maxRecDepth 100000 in
theorem lifted_FnExactForbiddingPlace (os : Os) (started : os.Started) (H : Type) (enc : TypeId × Value → H) :
    ReturnsInHanded {} Try.checked os 10 .any (Rows.fnExactForbiddingPlaceSpec.pre6 enc Try.prog Try.f10 Rows.fnExactForbiddingPlaceRow.domain false) (Rows.fnExactForbiddingPlaceSpec.post enc Try.prog Try.f10 false true false false) := by
  refine returnsInHanded_of_change (C := Try.checked) own_FnExactForbiddingPlace started (by kernel_rfl) Try.func10
    (ChangeSpec.witness6 (enc := enc) (C := Try.checked) false ⟨#[], #[.agg #[.int .i64 0, .int .i64 0, .int .i64 0]], []⟩ 8 (by kernel_rfl) (by kernel_rfl) (by kernel_rfl) (by kernel_rfl)) ?_
  intro W base args ds gs before hval0 hW hcnd _
  have hval : ∀ (j : Nat) t v, Try.f10.params[j]? = some t → args[j]? = some v → Value.okWide Try.prog W .any base t v := hval0
  have hW' := hW
  obtain ⟨p, q, hA0, hV, rfl, hfz, hnd⟩ := hW
  have hA : DataW.TrodAll enc Try.prog W 0 (fun _ => true) true Try.f10.params.toList args.toList ds p := hA0
  rw [Try.params10] at hA hval
  obtain ⟨v0, vs0, d0, ds0, p0, q0, hargs, rfl, rfl, h0, r0⟩ := trodAll_cons hA
  obtain ⟨rfl, rfl, rfl⟩ := trodAll_nil r0
  obtain rfl : args = #[v0] := by cases args; simp_all
  obtain ⟨rfl, rfl⟩ := trodVars_none hV
  obtain ⟨c0_0, c0_1, c0_2, y0_0, y0_1, y0_2, m0, rfl, rfl, rfl, g0_0, g0_1, g0_2⟩ := open_agg3 Try.underlying101 (by kernel_rfl) (show Try.prog.cellsOf 101 = 3 by kernel_rfl) (hval 0 101 v0 rfl rfl) h0
  obtain ⟨a0_0, e0_0, rfl, w0_0⟩ := DataW.trod_int Try.underlying3 g0_0
  obtain ⟨a0_1, e0_1, rfl, w0_1⟩ := DataW.trod_int Try.underlying3 g0_1
  obtain ⟨a0_2, e0_2, rfl, w0_2⟩ := DataW.trod_int Try.underlying3 g0_2
  simp at e0_0 e0_1 e0_2
  subst e0_0 e0_1 e0_2
  clear hA0 hval0
  simp only [List.append_nil] at hW'
  refine (walk_FnExactForbiddingPlace a0_0 a0_1 a0_2 W (wf_w64 w0_0) (wf_w64 w0_1) (wf_w64 w0_2)).mono fun e W' ⟨he, hg⟩ => ?_
  subst he
  exact ⟨_, rfl, post_of_below (pa := []) (pv := []) hW' (fun _ _ _ => (trodAll_cons_mk (shut_bool Try.underlying4 _) trodAll_mk0)) (fun sp _ => (trodAll_cons_mk (shut_agg3 (y0 := (.lit (.int .i64 a0_0), [])) (y1 := (.lit (.int .i64 a0_1), [])) (y2 := (.lit (.int .i64 a0_2), [])) Try.underlying101 (by kernel_rfl) (show Try.prog.cellsOf 101 = 3 by kernel_rfl) ⟨1, by simp [DataW.trod, Try.underlying3, w0_0]⟩ ⟨1, by simp [DataW.trod, Try.underlying3, w0_1]⟩ ⟨1, by simp [DataW.trod, Try.underlying3, w0_2]⟩) trodAll_mk0)) (fun _ _ => rfl) rfl
    hg (ok_one (by kernel_rfl) rfl (okWide_bool_mk Try.underlying4 _))⟩

theorem and2_FnExactForbiddingPlace {a b : Bool} (h : a = true) (k : b = true) : (a && b) = true := by rw [h, k]; rfl
set_option maxRecDepth 100000 in
theorem cl0_FnExactForbiddingPlace : (Rows.fnExactForbiddingPlaceRow.wf (OpenSpec.ofChange Rows.fnExactForbiddingPlaceSpec)) = true := by kernel_rfl
set_option maxRecDepth 100000 in
theorem cl1_FnExactForbiddingPlace : (laidOutB Try.pinned.checked.prog) = true := by kernel_rfl
set_option maxRecDepth 100000 in
theorem cl2_FnExactForbiddingPlace : (mapsRowed Try.pinned.checked.prog) = true := by kernel_rfl
set_option maxRecDepth 100000 in
theorem cl3_FnExactForbiddingPlace : (Try.f10.params.all (Try.pinned.checked.prog.readableRec ·)) = true := by kernel_rfl
set_option maxRecDepth 100000 in
theorem cl4_FnExactForbiddingPlace : (namedTie Try.pinned.checked.prog Rows.fnExactForbiddingPlaceRow.named Rows.fnExactForbiddingPlaceSpec.vars) = true := by kernel_rfl
set_option maxRecDepth 100000 in
theorem cl5_FnExactForbiddingPlace : (Rows.fnExactForbiddingPlaceRow.stops == []) = true := by kernel_rfl
set_option maxRecDepth 100000 in
theorem cl6_FnExactForbiddingPlace : (Try.pinned.checked.prog.stops == []) = true := by kernel_rfl
set_option maxRecDepth 100000 in
theorem cl7_FnExactForbiddingPlace : (Rows.fnExactForbiddingPlaceRow.knobs == []) = true := by kernel_rfl
set_option maxRecDepth 100000 in
theorem cl8_FnExactForbiddingPlace : (Try.pinned.checked.prog.stopKnobs == []) = true := by kernel_rfl
set_option maxRecDepth 100000 in
theorem cl9_FnExactForbiddingPlace : (Rows.fnExactForbiddingPlaceRow.inPlace == Try.pinned.checked.prog.inPlace 10) = true := by kernel_rfl
set_option maxRecDepth 100000 in
theorem cl10_FnExactForbiddingPlace : (Rows.fnExactForbiddingPlaceRow.unfollowed == Try.pinned.checked.prog.unfollowed 10) = true := by kernel_rfl
set_option maxRecDepth 100000 in
theorem cl11_FnExactForbiddingPlace : (Rows.fnExactForbiddingPlaceRow.recurses == Try.pinned.checked.prog.recurses 10) = true := by kernel_rfl
set_option maxRecDepth 100000 in
theorem cl12_FnExactForbiddingPlace : (Rows.fnExactForbiddingPlaceRow.named == Try.pinned.checked.prog.varsNamed 10) = true := by kernel_rfl
set_option maxRecDepth 100000 in
theorem cl13_FnExactForbiddingPlace : (Rows.fnExactForbiddingPlaceRow.maps == (Try.f10.params.toList ++ Rows.fnExactForbiddingPlaceSpec.plain.varTypes Try.pinned.checked.prog).any (Try.pinned.checked.prog.mapsRec ·)) = true := by kernel_rfl
set_option maxRecDepth 100000 in
theorem cl14_FnExactForbiddingPlace : (Rows.fnExactForbiddingPlaceRow.ifaces == (Try.f10.params.toList ++ Rows.fnExactForbiddingPlaceSpec.plain.varTypes Try.pinned.checked.prog).any (Try.pinned.checked.prog.ifacesRec ·)) = true := by kernel_rfl
set_option maxRecDepth 100000 in
theorem cl15_FnExactForbiddingPlace : (Rows.fnExactForbiddingPlaceRow.mapsOut == Try.pinned.checked.prog.mapsAmong Try.f10.resultTypes.toList) = true := by kernel_rfl
set_option maxRecDepth 100000 in
theorem cl16_FnExactForbiddingPlace : (Rows.fnExactForbiddingPlaceRow.loops == (Try.f10.params.toList ++ Rows.fnExactForbiddingPlaceSpec.plain.varTypes Try.pinned.checked.prog).any (Try.pinned.checked.prog.loopsFrom ·)) = true := by kernel_rfl
set_option maxRecDepth 100000 in
theorem cl17_FnExactForbiddingPlace : (Rows.fnExactForbiddingPlaceRow.wideKeys == (Try.f10.params.toList ++ Rows.fnExactForbiddingPlaceSpec.plain.varTypes Try.pinned.checked.prog ++ Try.f10.resultTypes.toList).any (Try.pinned.checked.prog.wideKeysFrom ·)) = true := by kernel_rfl
set_option maxRecDepth 100000 in
theorem cl18_FnExactForbiddingPlace : (Rows.fnExactForbiddingPlaceSpec.vars.all (Try.pinned.checked.prog.varReadable ·)) = true := by kernel_rfl
set_option maxRecDepth 100000 in
theorem cl19_FnExactForbiddingPlace : (Try.f10.resultTypes.all (fun t => Try.pinned.checked.prog.readableRec t && decide (t < Try.pinned.checked.prog.types.size))) = true := by kernel_rfl
set_option maxRecDepth 100000 in
theorem cl20_FnExactForbiddingPlace : (Rows.fnExactForbiddingPlaceRow.ifacesOut == Try.f10.resultTypes.toList.any (Try.pinned.checked.prog.ifacesRec ·)) = true := by kernel_rfl
set_option maxRecDepth 100000 in
theorem cl21_FnExactForbiddingPlace : (Rows.fnExactForbiddingPlaceRow.loopsOut == Try.f10.resultTypes.toList.any (Try.pinned.checked.prog.loopsFrom ·)) = true := by kernel_rfl
set_option maxRecDepth 100000 in
theorem cl22_FnExactForbiddingPlace : (Rows.fnExactForbiddingPlaceRow.plainKeys == Try.pinned.checked.prog.plainKeys) = true := by kernel_rfl
set_option maxRecDepth 100000 in
theorem cl23_FnExactForbiddingPlace : (Rows.fnExactForbiddingPlaceRow.shortTexts.isNone) = true := by kernel_rfl
set_option maxRecDepth 100000 in
theorem cl24_FnExactForbiddingPlace : (Try.pinned.checked.prog.stopsHeard) = true := by kernel_rfl
set_option maxRecDepth 100000 in
theorem cl25_FnExactForbiddingPlace : (Try.pinned.checked.prog.mayEnter) = true := by kernel_rfl
set_option maxRecDepth 100000 in
theorem cl26_FnExactForbiddingPlace : (Rows.fnExactForbiddingPlaceRow.lifted == Try.pinned.checked.prog.liftsFinal) = true := by kernel_rfl
set_option maxRecDepth 100000 in
theorem cl27_FnExactForbiddingPlace : (Try.pinned.checked.prog.make == some Rows.fnExactForbiddingPlaceRow.make) = true := by kernel_rfl
set_option maxRecDepth 100000 in
theorem cl28_FnExactForbiddingPlace : (Rows.fnExactForbiddingPlaceRow.kinds == (if Rows.fnExactForbiddingPlaceRow.domain.isEmpty then [] else Try.f10.params.toList.map fun t => match Try.pinned.checked.prog.underlying t with | some (.int k) => some k | _ => none)) = true := by kernel_rfl
set_option maxRecDepth 100000 in
theorem cl29_FnExactForbiddingPlace : (Rows.fnExactForbiddingPlaceRow.pinned == Rows.fnExactForbiddingPlaceRow.pinnedBy) = true := by kernel_rfl
set_option maxRecDepth 100000 in
theorem cl30_FnExactForbiddingPlace : (Rows.fnExactForbiddingPlaceRow.veiled == (Try.f10.params.toList ++ Rows.fnExactForbiddingPlaceSpec.plain.varTypes Try.pinned.checked.prog ++ Try.f10.resultTypes.toList).any (Try.pinned.checked.prog.veiledRec ·)) = true := by kernel_rfl
set_option maxRecDepth 100000 in
theorem cl31_FnExactForbiddingPlace : (Rows.fnExactForbiddingPlaceRow.veiledFits Try.pinned.checked.prog Try.f10.params.toList (Try.f10.params.toList ++ Rows.fnExactForbiddingPlaceSpec.plain.varTypes Try.pinned.checked.prog ++ Try.f10.resultTypes.toList)) = true := by kernel_rfl
set_option maxRecDepth 100000 in
theorem closed_FnExactForbiddingPlace : joinedFacts Try.pinned.checked.prog 10 Try.f10 Rows.fnExactForbiddingPlaceSpec Rows.fnExactForbiddingPlaceRow = true := (and2_FnExactForbiddingPlace (and2_FnExactForbiddingPlace (and2_FnExactForbiddingPlace (and2_FnExactForbiddingPlace (and2_FnExactForbiddingPlace (and2_FnExactForbiddingPlace (and2_FnExactForbiddingPlace (and2_FnExactForbiddingPlace (and2_FnExactForbiddingPlace (and2_FnExactForbiddingPlace (and2_FnExactForbiddingPlace (and2_FnExactForbiddingPlace (and2_FnExactForbiddingPlace (and2_FnExactForbiddingPlace (and2_FnExactForbiddingPlace (and2_FnExactForbiddingPlace (and2_FnExactForbiddingPlace (and2_FnExactForbiddingPlace (and2_FnExactForbiddingPlace (and2_FnExactForbiddingPlace (and2_FnExactForbiddingPlace (and2_FnExactForbiddingPlace (and2_FnExactForbiddingPlace (and2_FnExactForbiddingPlace (and2_FnExactForbiddingPlace (and2_FnExactForbiddingPlace (and2_FnExactForbiddingPlace (and2_FnExactForbiddingPlace (and2_FnExactForbiddingPlace (and2_FnExactForbiddingPlace (and2_FnExactForbiddingPlace cl0_FnExactForbiddingPlace cl1_FnExactForbiddingPlace) cl2_FnExactForbiddingPlace) cl3_FnExactForbiddingPlace) cl4_FnExactForbiddingPlace) cl5_FnExactForbiddingPlace) cl6_FnExactForbiddingPlace) cl7_FnExactForbiddingPlace) cl8_FnExactForbiddingPlace) cl9_FnExactForbiddingPlace) cl10_FnExactForbiddingPlace) cl11_FnExactForbiddingPlace) cl12_FnExactForbiddingPlace) cl13_FnExactForbiddingPlace) cl14_FnExactForbiddingPlace) cl15_FnExactForbiddingPlace) cl16_FnExactForbiddingPlace) cl17_FnExactForbiddingPlace) cl18_FnExactForbiddingPlace) cl19_FnExactForbiddingPlace) cl20_FnExactForbiddingPlace) cl21_FnExactForbiddingPlace) cl22_FnExactForbiddingPlace) cl23_FnExactForbiddingPlace) cl24_FnExactForbiddingPlace) cl25_FnExactForbiddingPlace) cl26_FnExactForbiddingPlace) cl27_FnExactForbiddingPlace) cl28_FnExactForbiddingPlace) cl29_FnExactForbiddingPlace) cl30_FnExactForbiddingPlace) cl31_FnExactForbiddingPlace)


/-- The statement. -/
theorem holds_FnExactForbiddingPlace : Rows.FnExactForbiddingPlaceSaid :=
  OpenClaim.holds_of_wide 10 Try.f10 rfl rfl rfl rfl rfl rfl rfl ⟨rfl, rfl, rfl, rfl, rfl⟩ rfl rfl rfl rfl rfl (by kernel_rfl) Try.func10 closed_FnExactForbiddingPlace
    (of_decide_eq_true (by kernel_rfl)) (by unfold Func.isWrapper; first | (rw [if_pos (by decide +kernel)]; kernel_rfl) | (rw [if_neg (by decide +kernel)]; exact ⟨rfl, rfl⟩))
    (fun os started H enc _ => lifted_FnExactForbiddingPlace os started H enc)
#print axioms holds_FnExactForbiddingPlace
end Go.Proofs.Ytjfcaafmlghjlaa
