/- For all triples of integers, the program's NormalTriple returns what the reference's returns (the law FnExactNormalTriple returns true and leaves its argument alone). Conditions: none. -/
import Derived.Test.YtjfcaafmlghjlaaJJ
import Derived.Test.YtjfcaafmlghjlaaW2
namespace Go.Proofs.Ytjfcaafmlghjlaa
open Go.RowKit Go.ChangeShapes Go.WideShapes Go.ChangeAt Go.Joins

set_option maxRecDepth 100000 in
set_option maxHeartbeats 3200000 in
theorem walk_FnExactNormalTriple (a b c : Int) (w : World) (ha : W64 a) (hb : W64 b) (hc : W64 c) :
    Calls Try.prog 9 #[.agg #[.int .i64 a, .int .i64 b, .int .i64 c]] w fun e w' => e = .returned (.bool true) ∧ Below w.heap.size w w' := by
  obtain ⟨x, y, z, ok, hR, e1, e2, e3, e4⟩ := ntR_ex a b c
  have hI := Lib.hid (fun w => implNT_any a b c w ha hb hc)
  have hS := Lib.hid (fun w => specNT_any a b c x y z ok w hR)
  rw [e1, e2, e3, e4] at hI
  clear ha hb hc hR e1 e2 e3 e4
  cases ok
  all_goals
    go_enter Try.func9, Try.ntmps9
    go_wp2_with fail
    refine (toTriple_any a b c _).mono ?_
    rintro e v1 ⟨rfl, hB1⟩
    have hZ1 := hB1.size
    (try simp at hZ1)
    have hA1 : Blk v1 w.heap.size 101 #[.int .i64 a, .int .i64 b, .int .i64 c] := Blk.call (by (repeat (first | with_reducible assumption | (with_reducible apply Blk.new_at; (first | rfl | (simp; done))) | with_reducible apply Blk.store3 | with_reducible apply Blk.store4 | (with_reducible apply Blk.farp; (first | omega | (simp <;> omega))) | with_reducible apply Blk.allocp | with_reducible apply Blk.drew | with_reducible apply Blk.drewN))) hB1
    have cA1 := hA1.cell; have fA1 := hA1.frozen; have lA1 := hA1.lt
    go_wp2_with (first
      | (go_at_call 73; (with_reducible refine (hS.out _).mono ?_); rintro e v2 ⟨rfl, hB2⟩; have hZ2 := hB2.size; (try simp at hZ2); (try have zl2 : w.heap.size < v2.heap.size := by omega); (try have ze2 : w.heap.size ≤ v2.heap.size := by omega); (try have zn2 : ¬ w.heap.size = v2.heap.size := by omega); (try have zm2 : ¬ v2.heap.size = w.heap.size := by omega); have hA2 : Blk v2 (w.heap.size) 101 #[.int .i64 a, .int .i64 b, .int .i64 c] := Blk.call (by (repeat (first | with_reducible assumption | (with_reducible apply Blk.new_at; (first | rfl | (simp; done))) | with_reducible apply Blk.store3 | with_reducible apply Blk.store4 | (with_reducible apply Blk.farp; (first | omega | (simp <;> omega))) | with_reducible apply Blk.allocp | with_reducible apply Blk.drew | with_reducible apply Blk.drewN))) hB2; have cA2 := hA2.cell; have fA2 := hA2.frozen; have lA2 := hA2.lt; have mA2 := Nat.ne_of_gt lA2; have nA2 := Nat.ne_of_lt lA2)
      | (go_at_call 74; (with_reducible refine (toTriple_any a b c _).mono ?_); rintro e v3 ⟨rfl, hB3⟩; have hZ3 := hB3.size; (try simp at hZ3); (try have zl3 : w.heap.size < v3.heap.size := by omega); (try have ze3 : w.heap.size ≤ v3.heap.size := by omega); (try have zn3 : ¬ w.heap.size = v3.heap.size := by omega); (try have zm3 : ¬ v3.heap.size = w.heap.size := by omega); have hA3 : Blk v3 (w.heap.size) 101 #[.int .i64 a, .int .i64 b, .int .i64 c] := Blk.call (by (repeat (first | with_reducible assumption | (with_reducible apply Blk.new_at; (first | rfl | (simp; done))) | with_reducible apply Blk.store3 | with_reducible apply Blk.store4 | (with_reducible apply Blk.farp; (first | omega | (simp <;> omega))) | with_reducible apply Blk.allocp | with_reducible apply Blk.drew | with_reducible apply Blk.drewN))) hB3; have cA3 := hA3.cell; have fA3 := hA3.frozen; have lA3 := hA3.lt; have mA3 := Nat.ne_of_gt lA3; have nA3 := Nat.ne_of_lt lA3; have hS3 : Blk v3 (v2.heap.size) 102 #[.int .i64 x, .int .i64 y, .int .i64 z] := Blk.call (by (repeat (first | with_reducible assumption | (with_reducible apply Blk.new_at; (first | rfl | (simp; done))) | with_reducible apply Blk.store3 | with_reducible apply Blk.store4 | (with_reducible apply Blk.farp; (first | omega | (simp <;> omega))) | with_reducible apply Blk.allocp | with_reducible apply Blk.drew | with_reducible apply Blk.drewN))) hB3; have cS3 := hS3.cell; have fS3 := hS3.frozen; have lS3 := hS3.lt; have mS3 := Nat.ne_of_gt lS3; have nS3 := Nat.ne_of_lt lS3)
      | (go_at_call 75; (with_reducible refine (hI.out _).mono ?_); rintro e v4 ⟨rfl, hB4⟩; have hZ4 := hB4.size; (try simp at hZ4); (try have zl4 : w.heap.size < v4.heap.size := by omega); (try have ze4 : w.heap.size ≤ v4.heap.size := by omega); (try have zn4 : ¬ w.heap.size = v4.heap.size := by omega); (try have zm4 : ¬ v4.heap.size = w.heap.size := by omega); have hA4 : Blk v4 (w.heap.size) 101 #[.int .i64 a, .int .i64 b, .int .i64 c] := Blk.call (by (repeat (first | with_reducible assumption | (with_reducible apply Blk.new_at; (first | rfl | (simp; done))) | with_reducible apply Blk.store3 | with_reducible apply Blk.store4 | (with_reducible apply Blk.farp; (first | omega | (simp <;> omega))) | with_reducible apply Blk.allocp | with_reducible apply Blk.drew | with_reducible apply Blk.drewN))) hB4; have cA4 := hA4.cell; have fA4 := hA4.frozen; have lA4 := hA4.lt; have mA4 := Nat.ne_of_gt lA4; have nA4 := Nat.ne_of_lt lA4; have hS4 : Blk v4 (v2.heap.size) 102 #[.int .i64 x, .int .i64 y, .int .i64 z] := Blk.call (by (repeat (first | with_reducible assumption | (with_reducible apply Blk.new_at; (first | rfl | (simp; done))) | with_reducible apply Blk.store3 | with_reducible apply Blk.store4 | (with_reducible apply Blk.farp; (first | omega | (simp <;> omega))) | with_reducible apply Blk.allocp | with_reducible apply Blk.drew | with_reducible apply Blk.drewN))) hB4; have cS4 := hS4.cell; have fS4 := hS4.frozen; have lS4 := hS4.lt; have mS4 := Nat.ne_of_gt lS4; have nS4 := Nat.ne_of_lt lS4)
      | (go_at_call 76; (with_reducible refine (eqTriple_same x y z _).mono ?_); rintro e v5 ⟨rfl, hB5⟩; have hZ5 := hB5.size; (try simp at hZ5); (try have zl5 : w.heap.size < v5.heap.size := by omega); (try have ze5 : w.heap.size ≤ v5.heap.size := by omega); (try have zn5 : ¬ w.heap.size = v5.heap.size := by omega); (try have zm5 : ¬ v5.heap.size = w.heap.size := by omega); have hC5_0 := fun o => (calm_cells hB5).1 (w.heap.size) o (by first | omega | (simp <;> omega)); have hF5_0 := fun o => (calm_cells hB5).2 (w.heap.size) o (by first | omega | (simp <;> omega)); (try have hl5_0 : w.heap.size < v5.heap.size := by omega); (try have hm5_0 : ¬ w.heap.size = v5.heap.size := by omega); (try have hn5_0 : ¬ v5.heap.size = w.heap.size := by omega)))
    go_ret
    exact ⟨rfl, (by repeat (first | with_reducible exact Below.refl _ _ | with_reducible assumption | with_reducible apply Below.drew | with_reducible apply below_drewN | (with_reducible apply below_setp; (first | omega | (simp <;> omega))) | (with_reducible apply below_allocp; (first | omega | (simp <;> omega))) | (with_reducible refine below_viap (by assumption) ?_ ?_; (first | omega | (simp <;> omega)))))⟩

theorem own_FnExactNormalTriple : ownKnob Try.prog.godebug = none := by kernel_rfl

set_option maxRecDepth 100000 in
theorem lifted_FnExactNormalTriple (os : Os) (started : os.Started) (H : Type) (enc : TypeId × Value → H) :
    ReturnsInHanded {} Try.checked os 9 .any (Rows.fnExactNormalTripleSpec.pre6 enc Try.prog Try.f9 Rows.fnExactNormalTripleRow.domain false) (Rows.fnExactNormalTripleSpec.post enc Try.prog Try.f9 false true false false) := by
  refine returnsInHanded_of_change (C := Try.checked) own_FnExactNormalTriple started (by kernel_rfl) Try.func9
    (ChangeSpec.witness6 (enc := enc) (C := Try.checked) false ⟨#[], #[.agg #[.int .i64 0, .int .i64 0, .int .i64 0]], []⟩ 8 (by kernel_rfl) (by kernel_rfl) (by kernel_rfl) (by kernel_rfl)) ?_
  intro W base args ds gs before hval0 hW hcnd _
  have hval : ∀ (j : Nat) t v, Try.f9.params[j]? = some t → args[j]? = some v → Value.okWide Try.prog W .any base t v := hval0
  have hW' := hW
  obtain ⟨p, q, hA0, hV, rfl, hfz, hnd⟩ := hW
  have hA : DataW.TrodAll enc Try.prog W 0 (fun _ => true) true Try.f9.params.toList args.toList ds p := hA0
  rw [Try.params9] at hA hval
  obtain ⟨v0, vs0, d0, ds0, p0, q0, hargs, rfl, rfl, h0, r0⟩ := trodAll_cons hA
  obtain ⟨rfl, rfl, rfl⟩ := trodAll_nil r0
  obtain rfl : args = #[v0] := by cases args; simp_all
  obtain ⟨rfl, rfl⟩ := trodVars_none hV
  obtain ⟨c0_0, c0_1, c0_2, y0_0, y0_1, y0_2, m0, rfl, rfl, rfl, g0_0, g0_1, g0_2⟩ := open_agg3 Try.underlying101 (by kernel_rfl) (show Try.prog.cellsOf 101 = 3 by kernel_rfl) (hval 0 101 v0 rfl rfl) h0
  obtain ⟨a0_0, e0_0, rfl, w0_0⟩ := DataW.trod_int Try.underlying3 g0_0
  obtain ⟨a0_1, e0_1, rfl, w0_1⟩ := DataW.trod_int Try.underlying3 g0_1
  obtain ⟨a0_2, e0_2, rfl, w0_2⟩ := DataW.trod_int Try.underlying3 g0_2
  simp at e0_0 e0_1 e0_2
  subst e0_0 e0_1 e0_2
  clear hA0 hval0
  simp only [List.append_nil] at hW'
  refine (walk_FnExactNormalTriple a0_0 a0_1 a0_2 W (wf_w64 w0_0) (wf_w64 w0_1) (wf_w64 w0_2)).mono fun e W' ⟨he, hg⟩ => ?_
  subst he
  exact ⟨_, rfl, post_of_below (pa := []) (pv := []) hW' (fun _ _ _ => (trodAll_cons_mk (shut_bool Try.underlying4 _) trodAll_mk0)) (fun sp _ => (trodAll_cons_mk (shut_agg3 (y0 := (.lit (.int .i64 a0_0), [])) (y1 := (.lit (.int .i64 a0_1), [])) (y2 := (.lit (.int .i64 a0_2), [])) Try.underlying101 (by kernel_rfl) (show Try.prog.cellsOf 101 = 3 by kernel_rfl) ⟨1, by simp [DataW.trod, Try.underlying3, w0_0]⟩ ⟨1, by simp [DataW.trod, Try.underlying3, w0_1]⟩ ⟨1, by simp [DataW.trod, Try.underlying3, w0_2]⟩) trodAll_mk0)) (fun _ _ => rfl) rfl
    hg (ok_one (by kernel_rfl) rfl (okWide_bool_mk Try.underlying4 _))⟩

theorem and2_FnExactNormalTriple {a b : Bool} (h : a = true) (k : b = true) : (a && b) = true := by rw [h, k]; rfl
set_option maxRecDepth 100000 in
theorem cl0_FnExactNormalTriple : (Rows.fnExactNormalTripleRow.wf (OpenSpec.ofChange Rows.fnExactNormalTripleSpec)) = true := by kernel_rfl
set_option maxRecDepth 100000 in
theorem cl1_FnExactNormalTriple : (laidOutB Try.pinned.checked.prog) = true := by kernel_rfl
set_option maxRecDepth 100000 in
theorem cl2_FnExactNormalTriple : (mapsRowed Try.pinned.checked.prog) = true := by kernel_rfl
set_option maxRecDepth 100000 in
theorem cl3_FnExactNormalTriple : (Try.f9.params.all (Try.pinned.checked.prog.readableRec ·)) = true := by kernel_rfl
set_option maxRecDepth 100000 in
theorem cl4_FnExactNormalTriple : (namedTie Try.pinned.checked.prog Rows.fnExactNormalTripleRow.named Rows.fnExactNormalTripleSpec.vars) = true := by kernel_rfl
set_option maxRecDepth 100000 in
theorem cl5_FnExactNormalTriple : (Rows.fnExactNormalTripleRow.stops == []) = true := by kernel_rfl
set_option maxRecDepth 100000 in
theorem cl6_FnExactNormalTriple : (Try.pinned.checked.prog.stops == []) = true := by kernel_rfl
set_option maxRecDepth 100000 in
theorem cl7_FnExactNormalTriple : (Rows.fnExactNormalTripleRow.knobs == []) = true := by kernel_rfl
set_option maxRecDepth 100000 in
theorem cl8_FnExactNormalTriple : (Try.pinned.checked.prog.stopKnobs == []) = true := by kernel_rfl
set_option maxRecDepth 100000 in
theorem cl9_FnExactNormalTriple : (Rows.fnExactNormalTripleRow.inPlace == Try.pinned.checked.prog.inPlace 9) = true := by kernel_rfl
set_option maxRecDepth 100000 in
theorem cl10_FnExactNormalTriple : (Rows.fnExactNormalTripleRow.unfollowed == Try.pinned.checked.prog.unfollowed 9) = true := by kernel_rfl
set_option maxRecDepth 100000 in
theorem cl11_FnExactNormalTriple : (Rows.fnExactNormalTripleRow.recurses == Try.pinned.checked.prog.recurses 9) = true := by kernel_rfl
set_option maxRecDepth 100000 in
theorem cl12_FnExactNormalTriple : (Rows.fnExactNormalTripleRow.named == Try.pinned.checked.prog.varsNamed 9) = true := by kernel_rfl
set_option maxRecDepth 100000 in
theorem cl13_FnExactNormalTriple : (Rows.fnExactNormalTripleRow.maps == (Try.f9.params.toList ++ Rows.fnExactNormalTripleSpec.plain.varTypes Try.pinned.checked.prog).any (Try.pinned.checked.prog.mapsRec ·)) = true := by kernel_rfl
set_option maxRecDepth 100000 in
theorem cl14_FnExactNormalTriple : (Rows.fnExactNormalTripleRow.ifaces == (Try.f9.params.toList ++ Rows.fnExactNormalTripleSpec.plain.varTypes Try.pinned.checked.prog).any (Try.pinned.checked.prog.ifacesRec ·)) = true := by kernel_rfl
set_option maxRecDepth 100000 in
theorem cl15_FnExactNormalTriple : (Rows.fnExactNormalTripleRow.mapsOut == Try.pinned.checked.prog.mapsAmong Try.f9.resultTypes.toList) = true := by kernel_rfl
set_option maxRecDepth 100000 in
theorem cl16_FnExactNormalTriple : (Rows.fnExactNormalTripleRow.loops == (Try.f9.params.toList ++ Rows.fnExactNormalTripleSpec.plain.varTypes Try.pinned.checked.prog).any (Try.pinned.checked.prog.loopsFrom ·)) = true := by kernel_rfl
set_option maxRecDepth 100000 in
theorem cl17_FnExactNormalTriple : (Rows.fnExactNormalTripleRow.wideKeys == (Try.f9.params.toList ++ Rows.fnExactNormalTripleSpec.plain.varTypes Try.pinned.checked.prog ++ Try.f9.resultTypes.toList).any (Try.pinned.checked.prog.wideKeysFrom ·)) = true := by kernel_rfl
set_option maxRecDepth 100000 in
theorem cl18_FnExactNormalTriple : (Rows.fnExactNormalTripleSpec.vars.all (Try.pinned.checked.prog.varReadable ·)) = true := by kernel_rfl
set_option maxRecDepth 100000 in
theorem cl19_FnExactNormalTriple : (Try.f9.resultTypes.all (fun t => Try.pinned.checked.prog.readableRec t && decide (t < Try.pinned.checked.prog.types.size))) = true := by kernel_rfl
set_option maxRecDepth 100000 in
theorem cl20_FnExactNormalTriple : (Rows.fnExactNormalTripleRow.ifacesOut == Try.f9.resultTypes.toList.any (Try.pinned.checked.prog.ifacesRec ·)) = true := by kernel_rfl
set_option maxRecDepth 100000 in
theorem cl21_FnExactNormalTriple : (Rows.fnExactNormalTripleRow.loopsOut == Try.f9.resultTypes.toList.any (Try.pinned.checked.prog.loopsFrom ·)) = true := by kernel_rfl
set_option maxRecDepth 100000 in
theorem cl22_FnExactNormalTriple : (Rows.fnExactNormalTripleRow.plainKeys == Try.pinned.checked.prog.plainKeys) = true := by kernel_rfl
set_option maxRecDepth 100000 in
theorem cl23_FnExactNormalTriple : (Rows.fnExactNormalTripleRow.shortTexts.isNone) = true := by kernel_rfl
set_option maxRecDepth 100000 in
theorem cl24_FnExactNormalTriple : (Try.pinned.checked.prog.stopsHeard) = true := by kernel_rfl
set_option maxRecDepth 100000 in
theorem cl25_FnExactNormalTriple : (Try.pinned.checked.prog.mayEnter) = true := by kernel_rfl
set_option maxRecDepth 100000 in
theorem cl26_FnExactNormalTriple : (Rows.fnExactNormalTripleRow.lifted == Try.pinned.checked.prog.liftsFinal) = true := by kernel_rfl
set_option maxRecDepth 100000 in
theorem cl27_FnExactNormalTriple : (Try.pinned.checked.prog.make == some Rows.fnExactNormalTripleRow.make) = true := by kernel_rfl
set_option maxRecDepth 100000 in
theorem cl28_FnExactNormalTriple : (Rows.fnExactNormalTripleRow.kinds == (if Rows.fnExactNormalTripleRow.domain.isEmpty then [] else Try.f9.params.toList.map fun t => match Try.pinned.checked.prog.underlying t with | some (.int k) => some k | _ => none)) = true := by kernel_rfl
set_option maxRecDepth 100000 in
theorem cl29_FnExactNormalTriple : (Rows.fnExactNormalTripleRow.pinned == Rows.fnExactNormalTripleRow.pinnedBy) = true := by kernel_rfl
set_option maxRecDepth 100000 in
theorem cl30_FnExactNormalTriple : (Rows.fnExactNormalTripleRow.veiled == (Try.f9.params.toList ++ Rows.fnExactNormalTripleSpec.plain.varTypes Try.pinned.checked.prog ++ Try.f9.resultTypes.toList).any (Try.pinned.checked.prog.veiledRec ·)) = true := by kernel_rfl
set_option maxRecDepth 100000 in
theorem cl31_FnExactNormalTriple : (Rows.fnExactNormalTripleRow.veiledFits Try.pinned.checked.prog Try.f9.params.toList (Try.f9.params.toList ++ Rows.fnExactNormalTripleSpec.plain.varTypes Try.pinned.checked.prog ++ Try.f9.resultTypes.toList)) = true := by kernel_rfl
set_option maxRecDepth 100000 in
theorem closed_FnExactNormalTriple : joinedFacts Try.pinned.checked.prog 9 Try.f9 Rows.fnExactNormalTripleSpec Rows.fnExactNormalTripleRow = true := (and2_FnExactNormalTriple (and2_FnExactNormalTriple (and2_FnExactNormalTriple (and2_FnExactNormalTriple (and2_FnExactNormalTriple (and2_FnExactNormalTriple (and2_FnExactNormalTriple (and2_FnExactNormalTriple (and2_FnExactNormalTriple (and2_FnExactNormalTriple (and2_FnExactNormalTriple (and2_FnExactNormalTriple (and2_FnExactNormalTriple (and2_FnExactNormalTriple (and2_FnExactNormalTriple (and2_FnExactNormalTriple (and2_FnExactNormalTriple (and2_FnExactNormalTriple (and2_FnExactNormalTriple (and2_FnExactNormalTriple (and2_FnExactNormalTriple (and2_FnExactNormalTriple (and2_FnExactNormalTriple (and2_FnExactNormalTriple (and2_FnExactNormalTriple (and2_FnExactNormalTriple (and2_FnExactNormalTriple (and2_FnExactNormalTriple (and2_FnExactNormalTriple (and2_FnExactNormalTriple (and2_FnExactNormalTriple cl0_FnExactNormalTriple cl1_FnExactNormalTriple) cl2_FnExactNormalTriple) cl3_FnExactNormalTriple) cl4_FnExactNormalTriple) cl5_FnExactNormalTriple) cl6_FnExactNormalTriple) cl7_FnExactNormalTriple) cl8_FnExactNormalTriple) cl9_FnExactNormalTriple) cl10_FnExactNormalTriple) cl11_FnExactNormalTriple) cl12_FnExactNormalTriple) cl13_FnExactNormalTriple) cl14_FnExactNormalTriple) cl15_FnExactNormalTriple) cl16_FnExactNormalTriple) cl17_FnExactNormalTriple) cl18_FnExactNormalTriple) cl19_FnExactNormalTriple) cl20_FnExactNormalTriple) cl21_FnExactNormalTriple) cl22_FnExactNormalTriple) cl23_FnExactNormalTriple) cl24_FnExactNormalTriple) cl25_FnExactNormalTriple) cl26_FnExactNormalTriple) cl27_FnExactNormalTriple) cl28_FnExactNormalTriple) cl29_FnExactNormalTriple) cl30_FnExactNormalTriple) cl31_FnExactNormalTriple)


/-- The statement. -/
theorem holds_FnExactNormalTriple : Rows.FnExactNormalTripleSaid :=
  OpenClaim.holds_of_wide 9 Try.f9 rfl rfl rfl rfl rfl rfl rfl ⟨rfl, rfl, rfl, rfl, rfl⟩ rfl rfl rfl rfl rfl (by kernel_rfl) Try.func9 closed_FnExactNormalTriple
    (of_decide_eq_true (by kernel_rfl)) (by unfold Func.isWrapper; first | (rw [if_pos (by decide +kernel)]; kernel_rfl) | (rw [if_neg (by decide +kernel)]; exact ⟨rfl, rfl⟩))
    (fun os started H enc _ => lifted_FnExactNormalTriple os started H enc)
#print axioms holds_FnExactNormalTriple
end Go.Proofs.Ytjfcaafmlghjlaa
